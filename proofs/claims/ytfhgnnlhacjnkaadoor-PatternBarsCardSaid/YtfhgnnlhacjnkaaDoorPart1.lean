import Derived.Lib.Bytealg
/-
  PLAIN LAWS ON TEXTS (lists of bytes): no program in sight.
-/
namespace Go.Proofs.YtfhgnnlhacjnkaaDoor.PT
set_option linter.unusedVariables false
set_option linter.unusedSimpArgs false

/-- a capital letter of ASCII made small -/
def lowB (c : UInt8) : UInt8 := if 65 ≤ c.toNat ∧ c.toNat ≤ 90 then UInt8.ofNat (c.toNat + 32) else c
def low (l : List UInt8) : List UInt8 := l.map lowB

theorem lowB_yes (c : UInt8) (h1 : 65 ≤ c.toNat) (h2 : c.toNat ≤ 90) : ((lowB c).toNat : Int) = (c.toNat : Int) + 32 := by
  unfold lowB
  rw [if_pos ⟨h1, h2⟩]
  simp
  omega
theorem lowB_no (c : UInt8) (h : ¬ (65 ≤ c.toNat ∧ c.toNat ≤ 90)) : lowB c = c := by
  unfold lowB
  rw [if_neg h]
theorem lowB_twice (c : UInt8) : lowB (lowB c) = lowB c := by
  by_cases h : 65 ≤ c.toNat ∧ c.toNat ≤ 90
  · have h1 := lowB_yes c h.1 h.2
    exact lowB_no _ (by omega)
  · rw [lowB_no c h]; exact lowB_no c h
theorem low_twice (l : List UInt8) : low (low l) = low l := by
  unfold low
  simp [lowB_twice]
theorem low_length (l : List UInt8) : (low l).length = l.length := by simp [low]

theorem drop_cons' (s : ByteArray) (k : Nat) (h : k < s.size) : s.data.toList.drop k = s[k] :: s.data.toList.drop (k + 1) := by
  rw [List.drop_eq_getElem_cons (by simpa using h)]; rfl
theorem take_snoc (s : ByteArray) (k : Nat) (h : k < s.size) : s.data.toList.take (k + 1) = s.data.toList.take k ++ [s[k]] := by
  rw [List.take_succ_eq_append_getElem (by simpa using h)]; rfl
theorem indexByte_no {l : List UInt8} {c : UInt8} (h : c ∉ l) : Lib.indexByte l c = -1 := by
  induction l with
  | nil => rfl
  | cons b l ih =>
    simp only [List.mem_cons, not_or] at h
    rw [Lib.indexByte, ih h.2, if_neg (by simp; exact fun e => h.1 e.symm)]
    rfl
theorem indexByte_yes {l : List UInt8} {c : UInt8} (h : c ∈ l) : ∃ z : Nat, Lib.indexByte l c = z ∧ z < l.length := by
  induction l with
  | nil => cases h
  | cons b l ih =>
    by_cases e : b = c
    · exact ⟨0, by rw [Lib.indexByte, if_pos (by simpa using e)]; rfl, by simp⟩
    · have h' : c ∈ l := by
        rcases List.mem_cons.1 h with h | h
        · exact absurd h.symm e
        · exact h
      obtain ⟨z, hz, hl⟩ := ih h'
      refine ⟨z + 1, ?_, by simpa using hl⟩
      rw [Lib.indexByte, hz, if_neg (by simpa using e), if_neg (by simp)]
      rfl

end Go.Proofs.YtfhgnnlhacjnkaaDoor.PT

/-
  PLAIN LAWS ON PATTERNS (chapter 09): how a pattern is read, and what it fits: no program in sight.
-/
namespace Go.Proofs.YtfhgnnlhacjnkaaDoor.PT
set_option linter.unusedVariables false
set_option linter.unusedSimpArgs false

/-! ### What fits: places between the signs -/
/-- what is behind places: each list tells at which places something may end -/
def orL (a b : List Bool) : List Bool := List.zipWith (fun x y => x || y) a b
theorem orL_len {a b : List Bool} (h : a.length = b.length) : (orL a b).length = a.length := by unfold orL; rw [List.length_zipWith]; omega
theorem orL_get {a b : List Bool} (h : a.length = b.length) (i : Nat) : (orL a b).getD i false = (a.getD i false || b.getD i false) := by
  unfold orL
  simp only [List.getD_eq_getElem?_getD, List.getElem?_zipWith]
  by_cases hi : i < a.length
  · rw [List.getElem?_eq_getElem hi, List.getElem?_eq_getElem (by omega)]; rfl
  · rw [List.getElem?_eq_none (by omega), List.getElem?_eq_none (by omega)]; rfl
theorem ext_getD {a b : List Bool} (hl : a.length = b.length) (h : ∀ i, a.getD i false = b.getD i false) : a = b := by
  apply List.ext_getElem hl
  intro i h1 h2
  have := h i
  simp only [List.getD_eq_getElem?_getD, List.getElem?_eq_getElem h1, List.getElem?_eq_getElem h2, Option.getD_some] at this
  exact this
theorem orL_self (a : List Bool) : orL a a = a := ext_getD (orL_len rfl) fun i => by rw [orL_get rfl, Bool.or_self]
theorem orL_comm {a b : List Bool} (h : a.length = b.length) : orL a b = orL b a := ext_getD (by rw [orL_len h, orL_len h.symm, h]) fun i => by rw [orL_get h, orL_get h.symm, Bool.or_comm]
theorem orL_assoc {a b c : List Bool} (h : a.length = b.length) (k : b.length = c.length) : orL (orL a b) c = orL a (orL b c) := by
  have e1 : (orL a b).length = c.length := by rw [orL_len h]; omega
  have e2 : a.length = (orL b c).length := by rw [orL_len k]; exact h
  exact ext_getD (by rw [orL_len e1, orL_len h, orL_len e2]) fun i => by rw [orL_get e1, orL_get h, orL_get e2, orL_get k, Bool.or_assoc]
/-- a step keeps the number of places, and of two lists joined makes what it makes of each -/
structure Adds (n : Nat) (d : List Bool → List Bool) : Prop where
  len : ∀ a, a.length = n → (d a).length = n
  add : ∀ a b, a.length = n → b.length = n → d (orL a b) = orL (d a) (d b)
theorem Adds.id (n : Nat) : Adds n fun a => a := ⟨fun _ h => h, fun _ _ _ _ => rfl⟩
theorem Adds.comp {n : Nat} {d e : List Bool → List Bool} (hd : Adds n d) (he : Adds n e) : Adds n fun a => e (d a) :=
  ⟨fun a h => he.len _ (hd.len a h), fun a b ha hb => by rw [hd.add a b ha hb, he.add _ _ (hd.len a ha) (hd.len b hb)]⟩
theorem Adds.or {n : Nat} {d e : List Bool → List Bool} (hd : Adds n d) (he : Adds n e) : Adds n fun a => orL (d a) (e a) :=
  ⟨fun a h => by
    show (orL (d a) (e a)).length = n
    rw [orL_len (by rw [hd.len a h, he.len a h]), hd.len a h], fun a b ha hb => by
    show orL (d (orL a b)) (e (orL a b)) = orL (orL (d a) (e a)) (orL (d b) (e b))
    have l1 := hd.len a ha
    have l2 := hd.len b hb
    have l3 := he.len a ha
    have l4 := he.len b hb
    have o1 : (orL (d a) (d b)).length = (orL (e a) (e b)).length := by rw [orL_len (by omega), orL_len (by omega)]; omega
    have o2 : (orL (d a) (e a)).length = (orL (d b) (e b)).length := by rw [orL_len (by omega), orL_len (by omega)]; omega
    rw [hd.add a b ha hb, he.add a b ha hb]
    refine ext_getD (by rw [orL_len o1, orL_len o2, orL_len (by omega), orL_len (by omega)] <;> omega) fun i => ?_
    rw [orL_get o1, orL_get o2, orL_get (by omega), orL_get (by omega), orL_get (by omega), orL_get (by omega)]
    cases (d a).getD i false <;> cases (d b).getD i false <;> cases (e a).getD i false <;> cases (e b).getD i false <;> rfl⟩
def iterL (d : List Bool → List Bool) : Nat → List Bool → List Bool
  | 0, a => a
  | n + 1, a => iterL d n (d a)
theorem iterL_succ (d : List Bool → List Bool) : ∀ (n : Nat) (a : List Bool), iterL d (n + 1) a = d (iterL d n a)
  | 0, _ => rfl
  | n + 1, a => iterL_succ d n (d a)
theorem Adds.iter {n : Nat} {d : List Bool → List Bool} (hd : Adds n d) : ∀ k, Adds n (iterL d k)
  | 0 => Adds.id n
  | k + 1 => hd.comp (Adds.iter hd k)
/-- one more round of a piece that may fit again -/
def againL (d : List Bool → List Bool) (a : List Bool) : List Bool := orL a (d a)
theorem Adds.more {n : Nat} {d : List Bool → List Bool} (hd : Adds n d) : Adds n (againL d) := (Adds.id n).or hd
theorem more_fix {d : List Bool → List Bool} {a : List Bool} (h : againL d a = a) : ∀ k, iterL (againL d) k a = a
  | 0 => rfl
  | k + 1 => by rw [iterL_succ, more_fix h k, h]
/-- how many places are left -/
def leftL (a : List Bool) : Nat := a.countP fun x => !x
theorem more_get {n : Nat} {d : List Bool → List Bool} (hd : Adds n d) {a : List Bool} (ha : a.length = n) (i : Nat) : (againL d a).getD i false = (a.getD i false || (d a).getD i false) := orL_get (by rw [ha, hd.len a ha]) i
theorem left_lt : ∀ {a b : List Bool}, a.length = b.length → (∀ i, a.getD i false = true → b.getD i false = true) → a ≠ b → leftL b < leftL a
  | [], [], _, _, h => absurd rfl h
  | [], _ :: _, h, _, _ => by simp at h
  | _ :: _, [], h, _, _ => by simp at h
  | x :: a, y :: b, hl, hle, hne => by
    have hl' : a.length = b.length := by simpa using hl
    have hle' : ∀ i, a.getD i false = true → b.getD i false = true := fun i h => by
      have := hle (i + 1)
      simp only [List.getD_cons_succ] at this
      exact this h
    have h0 : x = true → y = true := by have := hle 0; simpa using this
    unfold leftL
    simp only [List.countP_cons]
    by_cases e : a = b
    · subst e
      have hxy : x ≠ y := fun e => hne (by rw [e])
      cases x <;> cases y <;> simp_all
    · have := left_lt hl' hle' e
      unfold leftL at this
      cases x <;> cases y <;> simp_all <;> omega
theorem more_up {n : Nat} {d : List Bool → List Bool} (hd : Adds n d) {a : List Bool} (ha : a.length = n) (hne : againL d a ≠ a) : leftL (againL d a) < leftL a :=
  left_lt (by rw [ha, hd.more.len a ha]) (fun i h => by rw [more_get hd ha, h]; rfl) (fun e => hne e.symm)
/-- after as many rounds as places are left nothing more is found -/
theorem more_end {n : Nat} {d : List Bool → List Bool} (hd : Adds n d) : ∀ (k : Nat) (a : List Bool), a.length = n → leftL a ≤ k → againL d (iterL (againL d) k a) = iterL (againL d) k a
  | 0, a, ha, hk => by
    show againL d a = a
    by_cases h : againL d a = a
    · exact h
    · have := more_up hd ha h
      omega
  | k + 1, a, ha, hk => by
    by_cases h : againL d a = a
    · rw [more_fix h (k + 1)]; exact h
    · have := more_up hd ha h
      exact more_end hd k (againL d a) (hd.more.len a ha) (by omega)
theorem again_any {n : Nat} {d : List Bool → List Bool} (hd : Adds n d) {k : Nat} {a : List Bool} (h : againL d (iterL (againL d) k a) = iterL (againL d) k a) : ∀ m, k ≤ m → iterL (againL d) m a = iterL (againL d) k a := by
  intro m hm
  obtain ⟨j, rfl⟩ : ∃ j, m = k + j := ⟨m - k, by omega⟩
  clear hm
  induction j with
  | zero => rfl
  | succ j ih => rw [show k + (j + 1) = (k + j) + 1 by omega, iterL_succ, ih, h]
/-- the program's way: only from places that are new -/
theorem more_new {n : Nat} {d : List Bool → List Bool} (hd : Adds n d) {all new : List Bool} (ha : all.length = n) (hn : new.length = n) (hI : againL d all = orL all (d new)) {new' : List Bool} (hn' : new'.length = n) (hN : ∀ i, new'.getD i false = ((d new).getD i false && !all.getD i false)) :
    orL all (d new) = orL all new' ∧ againL d (againL d all) = orL (againL d all) (d new') := by
  have l1 := hd.len new hn
  have e1 : orL all (d new) = orL all new' := ext_getD (by rw [orL_len (by omega), orL_len (by omega)]) fun i => by
    rw [orL_get (by omega), orL_get (by omega), hN i]
    cases all.getD i false <;> simp
  refine ⟨e1, ?_⟩
  have hm : againL d all = orL all new' := hI.trans e1
  have l2 := hd.len all ha
  have l3 := hd.len new' hn'
  have l4 : (againL d all).length = n := hd.more.len all ha
  show orL (againL d all) (d (againL d all)) = _
  rw [show d (againL d all) = orL (d all) (d new') by rw [hm, hd.add all new' ha hn']]
  refine ext_getD (by rw [orL_len (by rw [orL_len (by omega)]; omega), orL_len (by omega)]) fun i => ?_
  rw [orL_get (by rw [orL_len (by omega)]; omega), orL_get (by omega), orL_get (by omega), more_get hd ha]
  cases all.getD i false <;> cases (d all).getD i false <;> cases (d new').getD i false <;> rfl
/-- one sign -/
def clsL (f : Nat → Bool) (t : List Nat) (a : List Bool) : List Bool := (false :: List.zipWith (fun x b => b && f x) t a).take a.length
theorem clsL_get (f : Nat → Bool) (t : List Nat) (a : List Bool) (h : a.length = t.length + 1) (i : Nat) : (clsL f t a).getD i false = match i with
    | 0 => false
    | j + 1 => match t[j]? with
      | some x => a.getD j false && f x
      | none => false := by
  unfold clsL
  rw [List.take_of_length_le (by simp only [List.length_cons, List.length_zipWith]; omega)]
  cases i with
  | zero => rfl
  | succ j =>
    simp only [List.getD_eq_getElem?_getD, List.getElem?_cons_succ, List.getElem?_zipWith]
    cases hx : t[j]? with
    | none => rfl
    | some x =>
      have hj : j < t.length := (List.getElem?_eq_some_iff.1 hx).1
      rw [List.getElem?_eq_getElem (by omega : j < a.length)]
      rfl
theorem clsL_adds (f : Nat → Bool) (t : List Nat) : Adds (t.length + 1) (clsL f t) := by
  have hl : ∀ a : List Bool, a.length = t.length + 1 → (clsL f t a).length = t.length + 1 := fun a h => by
    unfold clsL
    rw [List.length_take, List.length_cons, List.length_zipWith]
    omega
  refine ⟨hl, fun a b ha hb => ext_getD (by rw [orL_len (by rw [hl a ha, hl b hb]), hl a ha, hl _ (by rw [orL_len (by omega)]; exact ha)]) fun i => ?_⟩
  rw [orL_get (by rw [hl a ha, hl b hb]), clsL_get f t _ (by rw [orL_len (by omega)]; exact ha), clsL_get f t a ha, clsL_get f t b hb]
  cases i with
  | zero => rfl
  | succ j =>
    simp only
    cases t[j]? with
    | none => rfl
    | some x =>
      simp only
      rw [orL_get (by omega)]
      cases a.getD j false <;> cases b.getD j false <;> cases f x <;> rfl
/-! ### What a pattern is: pieces, each a step and how often it fits -/
structure Pce where
  d : List Nat → List Bool → List Bool
  lo : Nat
  hi : Option Nat
def pceL (p : Pce) (t : List Nat) (a : List Bool) : List Bool := iterL (againL (p.d t)) (match p.hi with
  | some h => h - p.lo
  | none => t.length + 1) (iterL (p.d t) p.lo a)
def rowL (ps : List Pce) (t : List Nat) (a : List Bool) : List Bool := ps.foldl (fun b p => pceL p t b) a
def noneL (a : List Bool) : List Bool := a.map fun _ => false
def grpL (rows : List (List Pce)) (t : List Nat) (a : List Bool) : List Bool := rows.foldl (fun o r => orL o (rowL r t a)) (noneL a)
theorem pceL_adds {p : Pce} {t : List Nat} (h : Adds (t.length + 1) (p.d t)) : Adds (t.length + 1) (pceL p t) := (h.iter _).comp (h.more.iter _)
theorem rowL_adds {t : List Nat} : ∀ {ps : List Pce}, (∀ p ∈ ps, Adds (t.length + 1) (p.d t)) → Adds (t.length + 1) (rowL ps t)
  | [], _ => Adds.id _
  | p :: ps, h => (pceL_adds (h p List.mem_cons_self)).comp (rowL_adds fun q hq => h q (List.mem_cons_of_mem _ hq))
theorem noneL_get (a : List Bool) (i : Nat) : (noneL a).getD i false = false := by
  unfold noneL
  simp only [List.getD_eq_getElem?_getD, List.getElem?_map]
  cases a[i]? <;> rfl
theorem noneL_adds (n : Nat) : Adds n noneL := ⟨fun a h => by unfold noneL; rw [List.length_map]; exact h, fun a b ha hb => ext_getD (by
    unfold noneL
    rw [orL_len (by rw [List.length_map, List.length_map]; omega), List.length_map, List.length_map, orL_len (by omega)]) fun i => by
  rw [orL_get (by unfold noneL; rw [List.length_map, List.length_map]; omega), noneL_get, noneL_get, noneL_get]; rfl⟩
theorem grpL_adds {t : List Nat} {rows : List (List Pce)} (h : ∀ r ∈ rows, ∀ p ∈ r, Adds (t.length + 1) (p.d t)) : Adds (t.length + 1) (grpL rows t) := by
  have key : ∀ (rs : List (List Pce)) (e : List Bool → List Bool), (∀ r ∈ rs, ∀ p ∈ r, Adds (t.length + 1) (p.d t)) → Adds (t.length + 1) e → Adds (t.length + 1) fun a => rs.foldl (fun o r => orL o (rowL r t a)) (e a) := by
    intro rs
    induction rs with
    | nil => intro e _ he; exact he
    | cons r rs ih =>
      intro e hr he
      exact ih (fun a => orL (e a) (rowL r t a)) (fun q hq => hr q (List.mem_cons_of_mem _ hq)) (he.or (rowL_adds (hr r List.mem_cons_self)))
  exact key rows noneL h (noneL_adds _)
end Go.Proofs.YtfhgnnlhacjnkaaDoor.PT

/-
  PLAIN LAWS ON PATTERNS (chapter 09): how a pattern is read: no program in sight.
-/
namespace Go.Proofs.YtfhgnnlhacjnkaaDoor.PT
set_option linter.unusedVariables false
set_option linter.unusedSimpArgs false

/-- d, w, s: their spans -/
def someP (c : Nat) : Option (List (Nat × Nat)) :=
  if c = 100 ∨ c = 68 then some [(48, 57)] else if c = 119 ∨ c = 87 then some [(48, 57), (65, 90), (95, 95), (97, 122)] else if c = 115 ∨ c = 83 then some [(9, 10), (12, 13), (32, 32)] else none
def inSp (sp : List (Nat × Nat)) (x : Nat) : Bool := sp.any fun s => decide (s.1 ≤ x) && decide (x ≤ s.2)
/-- signs: of spans, or all others -/
structure Klass where
  sp : List (Nat × Nat)
  neg : Bool
def Klass.fits (c : Klass) (x : Nat) : Bool := if inSp c.sp x then !c.neg else c.neg
/-- one of a class: its spans, and whether it is one sign alone -/
def signP : List Nat → Option (List (Nat × Nat) × Bool × List Nat)
  | [] => none
  | c :: r => if c = 92 then (match r with
      | [] => none
      | e :: r2 => if e = 100 ∨ e = 119 ∨ e = 115 then some ((someP e).getD [], false, r2) else if e ∈ [92, 91, 93, 94, 45, 47, 46] then some ([(e, e)], true, r2) else none)
    else if c ∈ [91, 93, 94, 45] then none else some ([(c, c)], true, r)
def fromP (sp : List (Nat × Nat)) : Nat := (sp.head?.getD (0, 0)).1
def itemP (l : List Nat) : Option (List (Nat × Nat) × List Nat) := match signP l with
  | none => none
  | some (sp, one, r) => match r with
    | [] => some (sp, [])
    | x :: r2 => if x = 45 then (match signP r2 with
        | none => none
        | some (sp2, one2, r3) => if (one && one2) = true ∧ fromP sp ≤ fromP sp2 then some ([(fromP sp, fromP sp2)], r3) else none)
      else some (sp, x :: r2)
def itemsP : Nat → List Nat → Option (List (Nat × Nat) × List Nat)
  | 0, _ => none
  | _ + 1, [] => none
  | f + 1, c :: r => if c = 93 then some ([], r) else match itemP (c :: r) with
    | none => none
    | some (sp, r1) => match itemsP f r1 with
      | none => none
      | some (sps, r2) => some (sp ++ sps, r2)
/-- behind [ -/
def bodyP (l : List Nat) : Option (List (Nat × Nat) × List Nat) := match itemP l with
  | none => none
  | some (sp, r1) => match itemsP (l.length + 1) r1 with
    | none => none
    | some (sps, r2) => some (sp ++ sps, r2)
def classP (l : List Nat) : Option (Klass × List Nat) := match l with
  | [] => none
  | c :: r => if c = 94 then (bodyP r).map fun q => (⟨q.1, true⟩, q.2) else (bodyP (c :: r)).map fun q => (⟨q.1, false⟩, q.2)
/-- behind \ -/
def escP : List Nat → Option (Klass × List Nat)
  | [] => none
  | c :: r => match someP c with
    | some sp => some (⟨sp, decide (c < 97)⟩, r)
    | none => if c ∈ [92, 94, 36, 46, 42, 43, 63, 40, 41, 91, 93, 123, 125, 124, 47, 45] then some (⟨[(c, c)], false⟩, r) else none
def digB (c : Nat) : Bool := decide (48 ≤ c) && decide (c ≤ 57)
/-- one or two digits -/
def numP : List Nat → Option (Nat × List Nat)
  | [] => none
  | a :: r => if digB a then (match r with
      | [] => some (a - 48, [])
      | b :: r2 => if digB b then some (10 * (a - 48) + (b - 48), r2) else some (a - 48, b :: r2)) else none
/-- how often: behind { -/
def timesP (l : List Nat) : Option (Nat × Option Nat × List Nat) := match numP l with
  | none => none
  | some (lo, r1) => match r1 with
    | [] => none
    | x :: r2 => if x = 125 then some (lo, some lo, r2) else if x = 44 then (match r2 with
        | [] => none
        | y :: r3 => if y = 125 then some (lo, none, r3) else match numP (y :: r3) with
          | none => none
          | some (hi, r4) => match r4 with
            | [] => none
            | z :: r5 => if z = 125 ∧ lo ≤ hi then some (lo, some hi, r5) else none) else none
def oftenP (isGrp : Bool) (l : List Nat) : Option (Nat × Option Nat × List Nat) := match l with
  | [] => some (1, some 1, [])
  | c :: r => if c = 42 then some (0, none, r) else if c = 43 then some (1, none, r) else if c = 63 then some (0, some 1, r) else if c = 123 then (if isGrp then none else timesP r) else some (1, some 1, c :: r)
abbrev Den := List Nat → List Bool → List Bool
/-- a row, by how an atom is read -/
def rowG (at_ : List Nat → Option (Den × List Nat)) : Nat → List Nat → Option (List Pce × List Nat)
  | 0, _ => none
  | _ + 1, [] => some ([], [])
  | f + 1, c :: r => if c = 124 ∨ c = 41 then some ([], c :: r) else match at_ (c :: r) with
    | none => none
    | some (d, r1) => match oftenP (decide (c = 40)) r1 with
      | none => none
      | some (lo, hi, r2) => match rowG at_ f r2 with
        | none => none
        | some (ps, r3) => some (⟨d, lo, hi⟩ :: ps, r3)
def rowsG (at_ : List Nat → Option (Den × List Nat)) : Nat → List Nat → Option (List (List Pce) × List Nat)
  | 0, _ => none
  | f + 1, l => match rowG at_ (l.length + 1) l with
    | none => none
    | some (ps, r) => match r with
      | [] => some ([ps], [])
      | c :: r2 => if c = 124 then (match rowsG at_ f r2 with
          | none => none
          | some (rs, r3) => some (ps :: rs, r3)) else some ([ps], c :: r2)
/-- an atom, in which groups may lie k deep -/
def atomK : Nat → List Nat → Option (Den × List Nat)
  | _, [] => none
  | 0, c :: r => if c = 91 then (classP r).map fun q => (clsL q.1.fits, q.2) else if c = 40 then none else if c = 92 then (escP r).map fun q => (clsL q.1.fits, q.2)
      else if c = 46 then some (clsL (Klass.fits ⟨[(10, 10), (13, 13)], true⟩), r) else if c ∈ [94, 36, 42, 43, 63, 41, 93, 123, 125, 124] then none else some (clsL (Klass.fits ⟨[(c, c)], false⟩), r)
  | k + 1, c :: r => if c = 40 then (match rowsG (atomK k) (r.length + 1) r with
      | none => none
      | some (rs, r2) => match r2 with
        | [] => none
        | x :: r3 => if x = 41 then some (grpL rs, r3) else none)
    else atomK 0 (c :: r)
/-- a whole pattern -/
def patP (l : List Nat) : Option (List (List Pce)) := match rowsG (atomK 8) (l.length + 1) l with
  | none => none
  | some (rs, r) => if r = [] then some rs else none

/-! ### What is read is behind: each is shorter -/
theorem signP_len {l : List Nat} {sp : List (Nat × Nat)} {one : Bool} {r : List Nat} (h : signP l = some (sp, one, r)) : r.length < l.length := by
  unfold signP at h
  split at h
  · cases h
  · rename_i c r0
    split at h
    · split at h
      · cases h
      · split at h
        · cases h; simp only [List.length_cons]; omega
        · split at h
          · cases h; simp only [List.length_cons]; omega
          · cases h
    · split at h
      · cases h
      · cases h; simp
theorem itemP_len {l : List Nat} {sp : List (Nat × Nat)} {r : List Nat} (h : itemP l = some (sp, r)) : r.length < l.length := by
  unfold itemP at h
  split at h
  · cases h
  · rename_i sp1 one r1 h1
    have l1 := signP_len h1
    split at h
    · cases h; simpa using l1
    · rename_i x r2
      simp only [List.length_cons] at l1
      split at h
      · split at h
        · cases h
        · rename_i sp2 one2 r3 h2
          have l2 := signP_len h2
          split at h
          · cases h; omega
          · cases h
      · cases h; simp only [List.length_cons]; omega
theorem itemsP_len : ∀ {f : Nat} {l : List Nat} {sp : List (Nat × Nat)} {r : List Nat}, itemsP f l = some (sp, r) → r.length < l.length
  | 0, _, _, _, h => by simp [itemsP] at h
  | f + 1, [], _, _, h => by simp [itemsP] at h
  | f + 1, c :: l, _, _, h => by
    unfold itemsP at h
    split at h
    · cases h; simp
    · split at h
      · cases h
      · rename_i h1
        have l1 := itemP_len h1
        split at h
        · cases h
        · rename_i h2
          have l2 := itemsP_len h2
          cases h
          omega
theorem bodyP_len {l : List Nat} {sp : List (Nat × Nat)} {r : List Nat} (h : bodyP l = some (sp, r)) : r.length < l.length := by
  unfold bodyP at h
  split at h
  · cases h
  · rename_i h1
    have l1 := itemP_len h1
    split at h
    · cases h
    · rename_i h2
      have l2 := itemsP_len h2
      cases h
      omega
theorem classP_len {l : List Nat} {c : Klass} {r : List Nat} (h : classP l = some (c, r)) : r.length < l.length := by
  unfold classP at h
  split at h
  · cases h
  · split at h
    · obtain ⟨q, h1, h2⟩ := Option.map_eq_some_iff.1 h
      have := bodyP_len (sp := q.1) (r := q.2) h1
      cases h2
      simp only [List.length_cons]; omega
    · obtain ⟨q, h1, h2⟩ := Option.map_eq_some_iff.1 h
      have := bodyP_len (sp := q.1) (r := q.2) h1
      cases h2
      exact this
theorem escP_len {l : List Nat} {c : Klass} {r : List Nat} (h : escP l = some (c, r)) : r.length < l.length := by
  unfold escP at h
  split at h
  · cases h
  · split at h
    · cases h; simp
    · split at h
      · cases h; simp
      · cases h
theorem numP_len {l : List Nat} {n : Nat} {r : List Nat} (h : numP l = some (n, r)) : r.length < l.length := by
  unfold numP at h
  split at h
  · cases h
  · split at h
    · split at h
      · cases h; simp
      · split at h
        · cases h; simp only [List.length_cons]; omega
        · cases h; simp
    · cases h
theorem timesP_len {l : List Nat} {lo : Nat} {hi : Option Nat} {r : List Nat} (h : timesP l = some (lo, hi, r)) : r.length < l.length := by
  unfold timesP at h
  split at h
  · cases h
  · rename_i h1
    have l1 := numP_len h1
    split at h
    · cases h
    · simp only [List.length_cons] at l1
      split at h
      · cases h; omega
      · split at h
        · split at h
          · cases h
          · simp only [List.length_cons] at l1
            split at h
            · cases h; omega
            · split at h
              · cases h
              · rename_i h2
                have l2 := numP_len h2
                simp only [List.length_cons] at l2
                split at h
                · cases h
                · simp only [List.length_cons] at l2
                  split at h
                  · cases h; omega
                  · cases h
        · cases h
theorem oftenP_len {g : Bool} {l : List Nat} {lo : Nat} {hi : Option Nat} {r : List Nat} (h : oftenP g l = some (lo, hi, r)) : r.length ≤ l.length := by
  unfold oftenP at h
  split at h
  · cases h; simp
  · split at h
    · cases h; simp
    · split at h
      · cases h; simp
      · split at h
        · cases h; simp
        · split at h
          · split at h
            · cases h
            · have := timesP_len h
              simp only [List.length_cons]; omega
          · cases h; simp
theorem rowG_len {at_ : List Nat → Option (Den × List Nat)} (ha : ∀ l d r, at_ l = some (d, r) → r.length < l.length) : ∀ {f : Nat} {l : List Nat} {ps : List Pce} {r : List Nat}, rowG at_ f l = some (ps, r) → r.length ≤ l.length
  | 0, _, _, _, h => by simp [rowG] at h
  | f + 1, [], _, _, h => by simp [rowG] at h; rw [← h.2]; simp
  | f + 1, c :: l, _, _, h => by
    unfold rowG at h
    split at h
    · cases h; exact Nat.le_refl _
    · split at h
      · cases h
      · rename_i h1
        have l1 := ha _ _ _ h1
        split at h
        · cases h
        · rename_i h2
          have l2 := oftenP_len h2
          split at h
          · cases h
          · rename_i h3
            have l3 := rowG_len ha h3
            cases h
            omega
theorem rowsG_len {at_ : List Nat → Option (Den × List Nat)} (ha : ∀ l d r, at_ l = some (d, r) → r.length < l.length) : ∀ {f : Nat} {l : List Nat} {rs : List (List Pce)} {r : List Nat}, rowsG at_ f l = some (rs, r) → r.length ≤ l.length
  | 0, _, _, _, h => by simp [rowsG] at h
  | f + 1, l, _, _, h => by
    unfold rowsG at h
    split at h
    · cases h
    · rename_i h1
      have l1 := rowG_len ha h1
      split at h
      · cases h; simp
      · simp only [List.length_cons] at l1
        split at h
        · split at h
          · cases h
          · rename_i h2
            have l2 := rowsG_len ha h2
            cases h
            omega
        · cases h; simp only [List.length_cons]; omega
theorem atomK_len : ∀ (k : Nat) (l : List Nat) (d : Den) (r : List Nat), atomK k l = some (d, r) → r.length < l.length
  | 0, [], _, _, h => by simp [atomK] at h
  | _ + 1, [], _, _, h => by simp [atomK] at h
  | 0, c :: l, d, r, h => by
    unfold atomK at h
    split at h
    · obtain ⟨q, h1, h2⟩ := Option.map_eq_some_iff.1 h
      have := classP_len (c := q.1) (r := q.2) h1
      cases h2
      simp only [List.length_cons]; omega
    · split at h
      · cases h
      · split at h
        · obtain ⟨q, h1, h2⟩ := Option.map_eq_some_iff.1 h
          have := escP_len (c := q.1) (r := q.2) h1
          cases h2
          simp only [List.length_cons]; omega
        · split at h
          · cases h; simp
          · split at h
            · cases h
            · cases h; simp
  | k + 1, c :: l, d, r, h => by
    unfold atomK at h
    split at h
    · split at h
      · cases h
      · rename_i h1
        have l1 := rowsG_len (atomK_len k) h1
        split at h
        · cases h
        · simp only [List.length_cons] at l1
          split at h
          · cases h; simp only [List.length_cons]; omega
          · cases h
    · exact atomK_len 0 (c :: l) d r h
end Go.Proofs.YtfhgnnlhacjnkaaDoor.PT

/-
  PLAIN LAWS ON PATTERNS (chapter 09): reading hangs on no fuel and, once it succeeds, on no depth; what is read adds up: no program in sight.
-/
namespace Go.Proofs.YtfhgnnlhacjnkaaDoor.PT
set_option linter.unusedVariables false
set_option linter.unusedSimpArgs false

theorem rowG_fuel {at_ : List Nat → Option (Den × List Nat)} (ha : ∀ l d r, at_ l = some (d, r) → r.length < l.length) : ∀ (f g : Nat) (l : List Nat), l.length < f → l.length < g → rowG at_ f l = rowG at_ g l
  | 0, _, _, h, _ => by omega
  | _ + 1, 0, _, _, h => by omega
  | f + 1, g + 1, [], _, _ => rfl
  | f + 1, g + 1, c :: l, hf, hg => by
    unfold rowG
    split
    · rfl
    · cases h1 : at_ (c :: l) with
      | none => rfl
      | some q =>
        obtain ⟨d, r1⟩ := q
        simp only
        have l1 := ha _ _ _ h1
        cases h2 : oftenP (decide (c = 40)) r1 with
        | none => rfl
        | some q =>
          obtain ⟨lo, hi, r2⟩ := q
          have l2 := oftenP_len h2
          simp only [List.length_cons] at hf hg l1
          simp only
          rw [rowG_fuel ha f g r2 (by omega) (by omega)]
def rowF (at_ : List Nat → Option (Den × List Nat)) (l : List Nat) : Option (List Pce × List Nat) := rowG at_ (l.length + 1) l
theorem rowF_nil (at_ : List Nat → Option (Den × List Nat)) : rowF at_ [] = some ([], []) := rfl
theorem rowF_end (at_ : List Nat → Option (Den × List Nat)) {c : Nat} {l : List Nat} (h : c = 124 ∨ c = 41) : rowF at_ (c :: l) = some ([], c :: l) := by
  unfold rowF rowG
  rw [if_pos h]
theorem rowF_cons {at_ : List Nat → Option (Den × List Nat)} (ha : ∀ l d r, at_ l = some (d, r) → r.length < l.length) {c : Nat} {l : List Nat} (h : ¬ (c = 124 ∨ c = 41)) : rowF at_ (c :: l) = (match at_ (c :: l) with
    | none => none
    | some (d, r1) => match oftenP (decide (c = 40)) r1 with
      | none => none
      | some (lo, hi, r2) => match rowF at_ r2 with
        | none => none
        | some (ps, r3) => some (⟨d, lo, hi⟩ :: ps, r3)) := by
  show rowG at_ ((c :: l).length + 1) (c :: l) = _
  unfold rowG
  rw [if_neg h]
  cases h1 : at_ (c :: l) with
  | none => rfl
  | some q =>
    obtain ⟨d, r1⟩ := q
    have l1 := ha _ _ _ h1
    simp only
    cases h2 : oftenP (decide (c = 40)) r1 with
    | none => rfl
    | some q =>
      obtain ⟨lo, hi, r2⟩ := q
      have l2 := oftenP_len h2
      simp only
      unfold rowF
      rw [rowG_fuel ha _ (r2.length + 1) r2 (by omega) (by omega)]
      try rfl
theorem rowsG_fuel {at_ : List Nat → Option (Den × List Nat)} (ha : ∀ l d r, at_ l = some (d, r) → r.length < l.length) : ∀ (f g : Nat) (l : List Nat), l.length < f → l.length < g → rowsG at_ f l = rowsG at_ g l
  | 0, _, _, h, _ => by omega
  | _ + 1, 0, _, _, h => by omega
  | f + 1, g + 1, l, hf, hg => by
    unfold rowsG
    cases h1 : rowG at_ (l.length + 1) l with
    | none => rfl
    | some q =>
      obtain ⟨ps, r⟩ := q
      have l1 := rowG_len ha h1
      simp only
      cases r with
      | nil => rfl
      | cons c r2 =>
        simp only [List.length_cons] at l1
        simp only
        rw [rowsG_fuel ha f g r2 (by omega) (by omega)]
def rowsF (at_ : List Nat → Option (Den × List Nat)) (l : List Nat) : Option (List (List Pce) × List Nat) := rowsG at_ (l.length + 1) l
theorem rowsF_eq {at_ : List Nat → Option (Den × List Nat)} (ha : ∀ l d r, at_ l = some (d, r) → r.length < l.length) (l : List Nat) : rowsF at_ l = (match rowF at_ l with
    | none => none
    | some (ps, r) => match r with
      | [] => some ([ps], [])
      | c :: r2 => if c = 124 then (match rowsF at_ r2 with
          | none => none
          | some (rs, r3) => some (ps :: rs, r3)) else some ([ps], c :: r2)) := by
  show rowsG at_ (l.length + 1) l = _
  unfold rowsG
  show (match rowF at_ l with | none => none | some (ps, r) => _) = _
  cases h1 : rowF at_ l with
  | none => rfl
  | some q =>
    obtain ⟨ps, r⟩ := q
    have l1 := rowG_len ha h1
    cases r with
    | nil => rfl
    | cons c r2 =>
      simp only [List.length_cons] at l1
      simp only
      unfold rowsF
      rw [rowsG_fuel ha l.length (r2.length + 1) r2 (by omega) (by omega)]
      try rfl
theorem rowG_mono {at1 at2 : List Nat → Option (Den × List Nat)} (h12 : ∀ l x, at1 l = some x → at2 l = some x) : ∀ (f : Nat) (l : List Nat) (x : List Pce × List Nat), rowG at1 f l = some x → rowG at2 f l = some x
  | 0, _, _, h => by simp [rowG] at h
  | f + 1, [], _, h => h
  | f + 1, c :: l, x, h => by
    unfold rowG at h ⊢
    split at h
    · rename_i hc; rw [if_pos hc]; exact h
    · rename_i hc
      rw [if_neg hc]
      cases h1 : at1 (c :: l) with
      | none => rw [h1] at h; cases h
      | some q =>
        obtain ⟨d, r1⟩ := q
        rw [h1] at h
        rw [h12 _ _ h1]
        simp only at h ⊢
        cases h2 : oftenP (decide (c = 40)) r1 with
        | none => rw [h2] at h; cases h
        | some q =>
          obtain ⟨lo, hi, r2⟩ := q
          rw [h2] at h
          simp only at h ⊢
          cases h3 : rowG at1 f r2 with
          | none => rw [h3] at h; cases h
          | some q =>
            rw [h3] at h
            rw [rowG_mono h12 f r2 q h3]
            exact h
theorem rowsG_mono {at1 at2 : List Nat → Option (Den × List Nat)} (h12 : ∀ l x, at1 l = some x → at2 l = some x) : ∀ (f : Nat) (l : List Nat) (x : List (List Pce) × List Nat), rowsG at1 f l = some x → rowsG at2 f l = some x
  | 0, _, _, h => by simp [rowsG] at h
  | f + 1, l, x, h => by
    unfold rowsG at h ⊢
    cases h1 : rowG at1 (l.length + 1) l with
    | none => rw [h1] at h; cases h
    | some q =>
      obtain ⟨ps, r⟩ := q
      rw [h1] at h
      rw [rowG_mono h12 _ l _ h1]
      simp only at h ⊢
      cases r with
      | nil => exact h
      | cons c r2 =>
        simp only at h ⊢
        split at h
        · rename_i hc
          rw [if_pos hc]
          cases h2 : rowsG at1 f r2 with
          | none => rw [h2] at h; cases h
          | some q =>
            rw [h2] at h
            rw [rowsG_mono h12 f r2 q h2]
            exact h
        · rename_i hc
          rw [if_neg hc]
          exact h
theorem atomK_zero {l : List Nat} {x : Den × List Nat} (h : atomK 0 l = some x) : ∀ k, atomK k l = some x
  | 0 => h
  | k + 1 => by
    cases l with
    | nil => simp [atomK] at h
    | cons c r =>
      unfold atomK
      rw [if_neg (fun hc => by
        subst hc
        unfold atomK at h
        rw [if_neg (by decide), if_pos rfl] at h
        cases h)]
      exact h
theorem atomK_succ : ∀ (k : Nat) (l : List Nat) (x : Den × List Nat), atomK k l = some x → atomK (k + 1) l = some x
  | 0, l, x, h => atomK_zero h 1
  | k + 1, [], x, h => by simp [atomK] at h
  | k + 1, c :: r, x, h => by
    unfold atomK at h ⊢
    split at h
    · rename_i hc
      rw [if_pos hc]
      cases h1 : rowsG (atomK k) (r.length + 1) r with
      | none => rw [h1] at h; cases h
      | some q =>
        rw [h1] at h
        rw [rowsG_mono (fun l x => atomK_succ k l x) _ r q h1]
        exact h
    · rename_i hc
      rw [if_neg hc]
      exact h
theorem atomK_mono {k m : Nat} (hkm : k ≤ m) {l : List Nat} {x : Den × List Nat} (h : atomK k l = some x) : atomK m l = some x := by
  obtain ⟨j, rfl⟩ : ∃ j, m = k + j := ⟨m - k, by omega⟩
  clear hkm
  induction j with
  | zero => exact h
  | succ j ih => exact atomK_succ _ _ _ ih
theorem rowsF_mono {k m : Nat} (hkm : k ≤ m) {l : List Nat} {x : List (List Pce) × List Nat} (h : rowsF (atomK k) l = some x) : rowsF (atomK m) l = some x := rowsG_mono (fun _ _ hx => atomK_mono hkm hx) _ _ _ h
theorem rowF_mono {k m : Nat} (hkm : k ≤ m) {l : List Nat} {x : List Pce × List Nat} (h : rowF (atomK k) l = some x) : rowF (atomK m) l = some x := rowG_mono (fun _ _ hx => atomK_mono hkm hx) _ _ _ h
/-- what is read adds up -/
def AddsD (d : Den) : Prop := ∀ t : List Nat, Adds (t.length + 1) (d t)
theorem rowG_adds {at_ : List Nat → Option (Den × List Nat)} (ha : ∀ l d r, at_ l = some (d, r) → AddsD d) : ∀ (f : Nat) (l : List Nat) (ps : List Pce) (r : List Nat), rowG at_ f l = some (ps, r) → ∀ p ∈ ps, AddsD p.d
  | 0, _, _, _, h => by simp [rowG] at h
  | f + 1, [], _, _, h => by simp [rowG] at h; rw [h.1]; intro p hp; cases hp
  | f + 1, c :: l, ps, r, h => by
    unfold rowG at h
    split at h
    · cases h; intro p hp; cases hp
    · cases h1 : at_ (c :: l) with
      | none => rw [h1] at h; cases h
      | some q =>
        obtain ⟨d, r1⟩ := q
        rw [h1] at h
        simp only at h
        cases h2 : oftenP (decide (c = 40)) r1 with
        | none => rw [h2] at h; cases h
        | some q =>
          obtain ⟨lo, hi, r2⟩ := q
          rw [h2] at h
          simp only at h
          cases h3 : rowG at_ f r2 with
          | none => rw [h3] at h; cases h
          | some q =>
            obtain ⟨ps2, r3⟩ := q
            rw [h3] at h
            cases h
            intro p hp
            rcases List.mem_cons.1 hp with rfl | hp
            · exact ha _ _ _ h1
            · exact rowG_adds ha f r2 ps2 _ h3 p hp
theorem rowsG_adds {at_ : List Nat → Option (Den × List Nat)} (ha : ∀ l d r, at_ l = some (d, r) → AddsD d) : ∀ (f : Nat) (l : List Nat) (rs : List (List Pce)) (r : List Nat), rowsG at_ f l = some (rs, r) → ∀ ps ∈ rs, ∀ p ∈ ps, AddsD p.d
  | 0, _, _, _, h => by simp [rowsG] at h
  | f + 1, l, rs, r, h => by
    unfold rowsG at h
    cases h1 : rowG at_ (l.length + 1) l with
    | none => rw [h1] at h; cases h
    | some q =>
      obtain ⟨ps, r1⟩ := q
      have hps := rowG_adds ha _ _ _ _ h1
      rw [h1] at h
      simp only at h
      cases r1 with
      | nil =>
        cases h
        intro qs hq
        rw [List.mem_singleton] at hq
        subst hq
        exact hps
      | cons c r2 =>
        simp only at h
        split at h
        · cases h2 : rowsG at_ f r2 with
          | none => rw [h2] at h; cases h
          | some q =>
            obtain ⟨rs2, r3⟩ := q
            rw [h2] at h
            cases h
            intro qs hq
            rcases List.mem_cons.1 hq with rfl | hq
            · exact hps
            · exact rowsG_adds ha f r2 rs2 _ h2 qs hq
        · cases h
          intro qs hq
          rw [List.mem_singleton] at hq
          subst hq
          exact hps
theorem atomK_adds : ∀ (k : Nat) (l : List Nat) (d : Den) (r : List Nat), atomK k l = some (d, r) → AddsD d
  | 0, [], _, _, h => by simp [atomK] at h
  | _ + 1, [], _, _, h => by simp [atomK] at h
  | 0, c :: l, d, r, h => by
    unfold atomK at h
    split at h
    · obtain ⟨q, h1, h2⟩ := Option.map_eq_some_iff.1 h
      cases h2
      exact clsL_adds _
    · split at h
      · cases h
      · split at h
        · obtain ⟨q, h1, h2⟩ := Option.map_eq_some_iff.1 h
          cases h2
          exact clsL_adds _
        · split at h
          · cases h; exact clsL_adds _
          · split at h
            · cases h
            · cases h; exact clsL_adds _
  | k + 1, c :: l, d, r, h => by
    unfold atomK at h
    split at h
    · cases h1 : rowsG (atomK k) (l.length + 1) l with
      | none => rw [h1] at h; cases h
      | some q =>
        obtain ⟨rs, r2⟩ := q
        have hrs := rowsG_adds (atomK_adds k) _ _ _ _ h1
        rw [h1] at h
        simp only at h
        split at h
        · cases h
        · split at h
          · cases h
            exact fun t => grpL_adds fun ps hps p hp => hrs ps hps p hp t
          · cases h
    · exact atomK_adds 0 (c :: l) d r h
end Go.Proofs.YtfhgnnlhacjnkaaDoor.PT

/-
  PLAIN LAWS ON PATTERNS (chapter 09): what is read stays what it is with more behind it; bars and groups: no program in sight.
-/
namespace Go.Proofs.YtfhgnnlhacjnkaaDoor.PT
set_option linter.unusedVariables false
set_option linter.unusedSimpArgs false

theorem signP_app {l : List Nat} {sp : List (Nat × Nat)} {one : Bool} {r : List Nat} (x : List Nat) (h : signP l = some (sp, one, r)) : signP (l ++ x) = some (sp, one, r ++ x) := by
  cases l with
  | nil => cases h
  | cons c l =>
    rw [List.cons_append]
    unfold signP at h ⊢
    simp only at h ⊢
    split at h
    · rename_i hc
      rw [if_pos hc]
      cases l with
      | nil => cases h
      | cons e l =>
        simp only [List.cons_append] at h ⊢
        split at h
        · rename_i he; rw [if_pos he]; cases h; rfl
        · rename_i he
          rw [if_neg he]
          split at h
          · rename_i hm; rw [if_pos hm]; cases h; rfl
          · cases h
    · rename_i hc
      rw [if_neg hc]
      split at h
      · cases h
      · rename_i hm; rw [if_neg hm]; cases h; rfl
theorem itemP_app {l : List Nat} {sp : List (Nat × Nat)} {r : List Nat} (x : List Nat) (h : itemP l = some (sp, r)) (hr : r ≠ []) : itemP (l ++ x) = some (sp, r ++ x) := by
  unfold itemP at h ⊢
  cases h1 : signP l with
  | none => rw [h1] at h; cases h
  | some q =>
    obtain ⟨sp1, one, r1⟩ := q
    rw [h1] at h
    rw [signP_app x h1]
    simp only at h ⊢
    cases r1 with
    | nil => cases h; exact absurd rfl hr
    | cons y r2 =>
      simp only [List.cons_append] at h ⊢
      split at h
      · rename_i hy
        rw [if_pos hy]
        cases h2 : signP r2 with
        | none => rw [h2] at h; cases h
        | some q =>
          obtain ⟨sp2, one2, r3⟩ := q
          rw [h2] at h
          rw [signP_app x h2]
          simp only at h ⊢
          split at h
          · rename_i hc; rw [if_pos hc]; cases h; rfl
          · cases h
      · rename_i hy
        rw [if_neg hy]
        cases h
        rfl
theorem itemsP_app (x : List Nat) : ∀ {f g : Nat} {l : List Nat} {sp : List (Nat × Nat)} {r : List Nat}, f ≤ g → itemsP f l = some (sp, r) → itemsP g (l ++ x) = some (sp, r ++ x)
  | 0, _, _, _, _, _, h => by simp [itemsP] at h
  | f + 1, 0, _, _, _, hg, _ => by omega
  | f + 1, g + 1, [], _, _, _, h => by simp [itemsP] at h
  | f + 1, g + 1, c :: l, sp, r, hg, h => by
    rw [List.cons_append]
    unfold itemsP at h ⊢
    split at h
    · rename_i hc; rw [if_pos hc]; cases h; rfl
    · rename_i hc
      rw [if_neg hc]
      cases h1 : itemP (c :: l) with
      | none => rw [h1] at h; cases h
      | some q =>
        obtain ⟨sp1, r1⟩ := q
        rw [h1] at h
        simp only at h
        cases h2 : itemsP f r1 with
        | none => rw [h2] at h; cases h
        | some q =>
          obtain ⟨sps, r2⟩ := q
          have hr1 : r1 ≠ [] := by
            rintro rfl
            cases f <;> simp [itemsP] at h2
          have h3 := itemP_app x h1 hr1
          rw [List.cons_append] at h3
          rw [h3]
          simp only
          rw [itemsP_app x (by omega : f ≤ g) h2]
          rw [h2] at h
          cases h
          rfl
theorem bodyP_app {l : List Nat} {sp : List (Nat × Nat)} {r : List Nat} (x : List Nat) (h : bodyP l = some (sp, r)) : bodyP (l ++ x) = some (sp, r ++ x) := by
  unfold bodyP at h ⊢
  cases h1 : itemP l with
  | none => rw [h1] at h; cases h
  | some q =>
    obtain ⟨sp1, r1⟩ := q
    rw [h1] at h
    simp only at h
    cases h2 : itemsP (l.length + 1) r1 with
    | none => rw [h2] at h; cases h
    | some q =>
      obtain ⟨sps, r2⟩ := q
      have hr1 : r1 ≠ [] := by
        rintro rfl
        simp [itemsP] at h2
      rw [itemP_app x h1 hr1]
      simp only
      rw [itemsP_app x (by rw [List.length_append]; omega) h2]
      rw [h2] at h
      cases h
      rfl
theorem classP_app {l : List Nat} {c : Klass} {r : List Nat} (x : List Nat) (h : classP l = some (c, r)) : classP (l ++ x) = some (c, r ++ x) := by
  cases l with
  | nil => cases h
  | cons e l =>
    rw [List.cons_append]
    unfold classP at h ⊢
    simp only at h ⊢
    split at h
    · rename_i he
      rw [if_pos he]
      obtain ⟨q, h1, h2⟩ := Option.map_eq_some_iff.1 h
      rw [bodyP_app (sp := q.1) (r := q.2) x h1]
      cases h2
      rfl
    · rename_i he
      rw [if_neg he]
      obtain ⟨q, h1, h2⟩ := Option.map_eq_some_iff.1 h
      have h3 := bodyP_app (sp := q.1) (r := q.2) x h1
      rw [List.cons_append] at h3
      rw [h3]
      cases h2
      rfl
theorem escP_app {l : List Nat} {c : Klass} {r : List Nat} (x : List Nat) (h : escP l = some (c, r)) : escP (l ++ x) = some (c, r ++ x) := by
  cases l with
  | nil => cases h
  | cons e l =>
    rw [List.cons_append]
    unfold escP at h ⊢
    simp only at h ⊢
    split at h
    · cases h; rfl
    · split at h
      · rename_i he; rw [if_pos he]; cases h; rfl
      · cases h
theorem numP_app {l : List Nat} {n : Nat} {r : List Nat} (x : List Nat) (h : numP l = some (n, r)) (hr : r ≠ []) : numP (l ++ x) = some (n, r ++ x) := by
  cases l with
  | nil => cases h
  | cons a l =>
    rw [List.cons_append]
    unfold numP at h ⊢
    simp only at h ⊢
    split at h
    · rename_i ha
      rw [if_pos ha]
      cases l with
      | nil => cases h; exact absurd rfl hr
      | cons b l =>
        simp only [List.cons_append] at h ⊢
        split at h
        · rename_i hb; rw [if_pos hb]; cases h; rfl
        · rename_i hb; rw [if_neg hb]; cases h; rfl
    · cases h
theorem timesP_app {l : List Nat} {lo : Nat} {hi : Option Nat} {r : List Nat} (x : List Nat) (h : timesP l = some (lo, hi, r)) : timesP (l ++ x) = some (lo, hi, r ++ x) := by
  unfold timesP at h ⊢
  cases h1 : numP l with
  | none => rw [h1] at h; cases h
  | some q =>
    obtain ⟨n, r1⟩ := q
    rw [h1] at h
    simp only at h
    cases r1 with
    | nil => cases h
    | cons y r2 =>
      rw [numP_app x h1 (by simp)]
      simp only [List.cons_append] at h ⊢
      split at h
      · rename_i hy; rw [if_pos hy]; cases h; rfl
      · rename_i hy
        rw [if_neg hy]
        split at h
        · rename_i hy2
          rw [if_pos hy2]
          cases r2 with
          | nil => cases h
          | cons z r3 =>
            simp only [List.cons_append] at h ⊢
            split at h
            · rename_i hz; rw [if_pos hz]; cases h; rfl
            · rename_i hz
              rw [if_neg hz]
              cases h2 : numP (z :: r3) with
              | none => rw [h2] at h; cases h
              | some q =>
                obtain ⟨m, r4⟩ := q
                rw [h2] at h
                simp only at h
                cases r4 with
                | nil => cases h
                | cons y2 r5 =>
                  have h3 := numP_app x h2 (by simp)
                  rw [List.cons_append] at h3
                  rw [h3]
                  simp only [List.cons_append] at h ⊢
                  split at h
                  · rename_i hq; rw [if_pos hq]; cases h; rfl
                  · cases h
        · cases h
/-- what may stand behind a row -/
def endB (c : Nat) : Prop := c = 124 ∨ c = 41
theorem oftenP_app {g : Bool} {l : List Nat} {lo : Nat} {hi : Option Nat} {r : List Nat} {c : Nat} (x : List Nat) (hc : endB c) (h : oftenP g l = some (lo, hi, r)) : oftenP g (l ++ c :: x) = some (lo, hi, r ++ c :: x) := by
  cases l with
  | nil =>
    cases h
    unfold oftenP
    rcases hc with rfl | rfl <;> rfl
  | cons e l =>
    rw [List.cons_append]
    unfold oftenP at h ⊢
    simp only at h ⊢
    split at h
    · rename_i he; rw [if_pos he]; cases h; rfl
    · rename_i he
      rw [if_neg he]
      split at h
      · rename_i he; rw [if_pos he]; cases h; rfl
      · rename_i he
        rw [if_neg he]
        split at h
        · rename_i he; rw [if_pos he]; cases h; rfl
        · rename_i he
          rw [if_neg he]
          split at h
          · rename_i he
            rw [if_pos he]
            split at h
            · cases h
            · rename_i hg
              rw [if_neg hg]
              exact timesP_app _ h
          · rename_i he
            rw [if_neg he]
            cases h
            rfl
theorem rowG_app {at_ : List Nat → Option (Den × List Nat)} (ha : ∀ l d r x, at_ l = some (d, r) → at_ (l ++ x) = some (d, r ++ x)) {c : Nat} (x : List Nat) (hc : endB c) : ∀ {f g : Nat} {l : List Nat} {ps : List Pce} {r : List Nat}, f ≤ g → rowG at_ f l = some (ps, r) → rowG at_ g (l ++ c :: x) = some (ps, r ++ c :: x)
  | 0, _, _, _, _, _, h => by simp [rowG] at h
  | f + 1, 0, _, _, _, hg, _ => by omega
  | f + 1, g + 1, [], ps, r, _, h => by
    have h2 : ps = [] ∧ r = [] := by simpa [rowG, eq_comm] using h
    rw [h2.1, h2.2, List.nil_append]
    unfold rowG
    exact if_pos hc
  | f + 1, g + 1, e :: l, ps, r, hg, h => by
    rw [List.cons_append]
    unfold rowG at h ⊢
    split at h
    · rename_i he; rw [if_pos he]; cases h; rfl
    · rename_i he
      rw [if_neg he]
      cases h1 : at_ (e :: l) with
      | none => rw [h1] at h; cases h
      | some q =>
        obtain ⟨d, r1⟩ := q
        rw [h1] at h
        have h1' := ha _ _ _ (c :: x) h1
        rw [List.cons_append] at h1'
        rw [h1']
        simp only at h ⊢
        cases h2 : oftenP (decide (e = 40)) r1 with
        | none => rw [h2] at h; cases h
        | some q =>
          obtain ⟨lo, hi, r2⟩ := q
          rw [h2] at h
          rw [oftenP_app x hc h2]
          simp only at h ⊢
          cases h3 : rowG at_ f r2 with
          | none => rw [h3] at h; cases h
          | some q =>
            obtain ⟨ps2, r3⟩ := q
            rw [h3] at h
            rw [rowG_app ha x hc (by omega : f ≤ g) h3]
            cases h
            rfl
theorem rowF_app {at_ : List Nat → Option (Den × List Nat)} (ha : ∀ l d r x, at_ l = some (d, r) → at_ (l ++ x) = some (d, r ++ x)) {c : Nat} (x : List Nat) (hc : endB c) {l : List Nat} {ps : List Pce} {r : List Nat} (h : rowF at_ l = some (ps, r)) : rowF at_ (l ++ c :: x) = some (ps, r ++ c :: x) :=
  rowG_app ha x hc (by rw [List.length_append]; omega) h
/-- with ) behind -/
theorem rowsG_app {at_ : List Nat → Option (Den × List Nat)} (ha : ∀ l d r x, at_ l = some (d, r) → at_ (l ++ x) = some (d, r ++ x)) (x : List Nat) : ∀ {f g : Nat} {l : List Nat} {rs : List (List Pce)} {r : List Nat}, f ≤ g → rowsG at_ f l = some (rs, r) → rowsG at_ g (l ++ 41 :: x) = some (rs, r ++ 41 :: x)
  | 0, _, _, _, _, _, h => by simp [rowsG] at h
  | f + 1, 0, _, _, _, hg, _ => by omega
  | f + 1, g + 1, l, rs, r, hg, h => by
    unfold rowsG at h ⊢
    cases h1 : rowG at_ (l.length + 1) l with
    | none => rw [h1] at h; cases h
    | some q =>
      obtain ⟨ps, r1⟩ := q
      rw [h1] at h
      rw [rowG_app ha x (.inr rfl) (by rw [List.length_append]; omega) h1]
      simp only at h ⊢
      cases r1 with
      | nil =>
        cases h
        simp only [List.nil_append]
        rw [if_neg (by decide)]
      | cons c r2 =>
        simp only [List.cons_append] at h ⊢
        split at h
        · rename_i hc
          rw [if_pos hc]
          cases h2 : rowsG at_ f r2 with
          | none => rw [h2] at h; cases h
          | some q =>
            obtain ⟨rs2, r3⟩ := q
            rw [h2] at h
            rw [rowsG_app ha x (by omega : f ≤ g) h2]
            cases h
            rfl
        · rename_i hc
          rw [if_neg hc]
          cases h
          rfl
theorem oftenP_more {g : Bool} {l : List Nat} {lo : Nat} {hi : Option Nat} {r : List Nat} (x : List Nat) (hl : l ≠ []) (h : oftenP g l = some (lo, hi, r)) : oftenP g (l ++ x) = some (lo, hi, r ++ x) := by
  cases l with
  | nil => exact absurd rfl hl
  | cons e l =>
    rw [List.cons_append]
    unfold oftenP at h ⊢
    simp only at h ⊢
    split at h
    · rename_i he; rw [if_pos he]; cases h; rfl
    · rename_i he
      rw [if_neg he]
      split at h
      · rename_i he; rw [if_pos he]; cases h; rfl
      · rename_i he
        rw [if_neg he]
        split at h
        · rename_i he; rw [if_pos he]; cases h; rfl
        · rename_i he
          rw [if_neg he]
          split at h
          · rename_i he
            rw [if_pos he]
            split at h
            · cases h
            · rename_i hg
              rw [if_neg hg]
              exact timesP_app _ h
          · rename_i he
            rw [if_neg he]
            cases h
            rfl
theorem rowG_more {at_ : List Nat → Option (Den × List Nat)} (ha : ∀ l d r x, at_ l = some (d, r) → at_ (l ++ x) = some (d, r ++ x)) (x : List Nat) : ∀ {f g : Nat} {l : List Nat} {ps : List Pce} {r : List Nat}, f ≤ g → r ≠ [] → rowG at_ f l = some (ps, r) → rowG at_ g (l ++ x) = some (ps, r ++ x)
  | 0, _, _, _, _, _, _, h => by simp [rowG] at h
  | f + 1, 0, _, _, _, hg, _, _ => by omega
  | f + 1, g + 1, [], ps, r, _, hr, h => by
    have h2 : ps = [] ∧ r = [] := by simpa [rowG, eq_comm] using h
    exact absurd h2.2 hr
  | f + 1, g + 1, e :: l, ps, r, hg, hr, h => by
    rw [List.cons_append]
    unfold rowG at h ⊢
    split at h
    · rename_i he; rw [if_pos he]; cases h; rfl
    · rename_i he
      rw [if_neg he]
      cases h1 : at_ (e :: l) with
      | none => rw [h1] at h; cases h
      | some q =>
        obtain ⟨d, r1⟩ := q
        rw [h1] at h
        have h1' := ha _ _ _ x h1
        rw [List.cons_append] at h1'
        rw [h1']
        simp only at h ⊢
        cases h2 : oftenP (decide (e = 40)) r1 with
        | none => rw [h2] at h; cases h
        | some q =>
          obtain ⟨lo, hi, r2⟩ := q
          rw [h2] at h
          simp only at h
          cases h3 : rowG at_ f r2 with
          | none => rw [h3] at h; cases h
          | some q =>
            obtain ⟨ps2, r3⟩ := q
            have hr3 : r3 = r := by rw [h3] at h; cases h; rfl
            have hr1 : r1 ≠ [] := by
              rintro rfl
              cases h2
              cases f with
              | zero => simp [rowG] at h3
              | succ f =>
                have h4 : ps2 = [] ∧ r3 = [] := by simpa [rowG, eq_comm] using h3
                exact hr (hr3 ▸ h4.2)
            rw [oftenP_more x hr1 h2]
            simp only
            rw [rowG_more ha x (by omega : f ≤ g) (by rw [hr3]; exact hr) h3]
            rw [h3] at h
            cases h
            rfl
theorem rowsG_stop {at_ : List Nat → Option (Den × List Nat)} (ha : ∀ l d r x, at_ l = some (d, r) → at_ (l ++ x) = some (d, r ++ x)) (x : List Nat) : ∀ {f g : Nat} {l : List Nat} {rs : List (List Pce)} {r : List Nat} {c : Nat}, f ≤ g → rowsG at_ f l = some (rs, c :: r) → rowsG at_ g (l ++ x) = some (rs, c :: r ++ x)
  | 0, _, _, _, _, _, _, h => by simp [rowsG] at h
  | f + 1, 0, _, _, _, _, hg, _ => by omega
  | f + 1, g + 1, l, rs, r, c, hg, h => by
    unfold rowsG at h ⊢
    cases h1 : rowG at_ (l.length + 1) l with
    | none => rw [h1] at h; cases h
    | some q =>
      obtain ⟨ps, r1⟩ := q
      rw [h1] at h
      simp only at h
      cases r1 with
      | nil => cases h
      | cons y r2 =>
        rw [rowG_more ha x (by rw [List.length_append]; omega) (by simp) h1]
        simp only [List.cons_append] at h ⊢
        split at h
        · rename_i hc
          rw [if_pos hc]
          cases h2 : rowsG at_ f r2 with
          | none => rw [h2] at h; cases h
          | some q =>
            obtain ⟨rs2, r3⟩ := q
            rw [h2] at h
            cases h
            rw [rowsG_stop ha x (by omega : f ≤ g) h2]
            rfl
        · rename_i hc
          rw [if_neg hc]
          cases h
          rfl
theorem atomK_app : ∀ (k : Nat) (l : List Nat) (d : Den) (r x : List Nat), atomK k l = some (d, r) → atomK k (l ++ x) = some (d, r ++ x)
  | 0, [], _, _, _, h => by simp [atomK] at h
  | _ + 1, [], _, _, _, h => by simp [atomK] at h
  | 0, c :: l, d, r, x, h => by
    rw [List.cons_append]
    unfold atomK at h ⊢
    split at h
    · rename_i hc
      rw [if_pos hc]
      obtain ⟨q, h1, h2⟩ := Option.map_eq_some_iff.1 h
      rw [classP_app (c := q.1) (r := q.2) x h1]
      cases h2
      rfl
    · rename_i hc
      rw [if_neg hc]
      split at h
      · cases h
      · rename_i hc
        rw [if_neg hc]
        split at h
        · rename_i hc
          rw [if_pos hc]
          obtain ⟨q, h1, h2⟩ := Option.map_eq_some_iff.1 h
          rw [escP_app (c := q.1) (r := q.2) x h1]
          cases h2
          rfl
        · rename_i hc
          rw [if_neg hc]
          split at h
          · rename_i hc; rw [if_pos hc]; cases h; rfl
          · rename_i hc
            rw [if_neg hc]
            split at h
            · cases h
            · rename_i hc; rw [if_neg hc]; cases h; rfl
  | k + 1, c :: l, d, r, x, h => by
    rw [List.cons_append]
    unfold atomK at h ⊢
    split at h
    · rename_i hc
      rw [if_pos hc]
      cases h1 : rowsG (atomK k) (l.length + 1) l with
      | none => rw [h1] at h; cases h
      | some q =>
        obtain ⟨rs, r2⟩ := q
        rw [h1] at h
        simp only at h
        cases r2 with
        | nil => cases h
        | cons y r3 =>
          simp only at h
          split at h
          · rename_i hy
            subst hy
            cases h
            -- what was read ends at ')': so it is read with more behind it
            have key := rowsG_stop (atomK_app k) x (g := (l ++ x).length + 1) (by rw [List.length_append]; omega) h1
            rw [key]
            simp only [List.cons_append]
            exact if_pos trivial
          · cases h
    · rename_i hc
      rw [if_neg hc]
      exact atomK_app 0 (c :: l) d r x h
theorem rowsG_up {at_ : List Nat → Option (Den × List Nat)} : ∀ {f g : Nat} {l : List Nat} {x : List (List Pce) × List Nat}, f ≤ g → rowsG at_ f l = some x → rowsG at_ g l = some x
  | 0, _, _, _, _, h => by simp [rowsG] at h
  | f + 1, 0, _, _, hg, _ => by omega
  | f + 1, g + 1, l, x, hg, h => by
    unfold rowsG at h ⊢
    cases h1 : rowG at_ (l.length + 1) l with
    | none => rw [h1] at h; cases h
    | some q =>
      obtain ⟨ps, r⟩ := q
      rw [h1] at h
      simp only at h ⊢
      cases r with
      | nil => exact h
      | cons c r2 =>
        simp only at h ⊢
        split at h
        · rename_i hc
          rw [if_pos hc]
          cases h2 : rowsG at_ f r2 with
          | none => rw [h2] at h; cases h
          | some q =>
            rw [h2] at h
            rw [rowsG_up (by omega : f ≤ g) h2]
            exact h
        · rename_i hc
          rw [if_neg hc]
          exact h
/-- a bar: the rows of both -/
theorem rowsG_bar {at_ : List Nat → Option (Den × List Nat)} (ha : ∀ l d r x, at_ l = some (d, r) → at_ (l ++ x) = some (d, r ++ x)) (l2 : List Nat) {rs2 : List (List Pce)} {r2 : List Nat} {n : Nat} (hn : rowsG at_ n l2 = some (rs2, r2)) : ∀ {f : Nat} {l : List Nat} {rs : List (List Pce)}, rowsG at_ f l = some (rs, []) → rowsG at_ (f + n) (l ++ 124 :: l2) = some (rs ++ rs2, r2)
  | 0, _, _, h => by simp [rowsG] at h
  | f + 1, l, rs, h => by
    rw [show f + 1 + n = f + n + 1 by omega]
    unfold rowsG at h ⊢
    cases h1 : rowG at_ (l.length + 1) l with
    | none => rw [h1] at h; cases h
    | some q =>
      obtain ⟨ps, r1⟩ := q
      rw [h1] at h
      rw [rowG_app ha l2 (.inl rfl) (by rw [List.length_append]; omega) h1]
      simp only at h ⊢
      cases r1 with
      | nil =>
        cases h
        simp only [List.nil_append]
        rw [if_pos trivial]
        have hm : rowsG at_ (f + n) l2 = some (rs2, r2) := rowsG_up (by omega) hn
        rw [hm]
        rfl
      | cons c r3 =>
        simp only [List.cons_append] at h ⊢
        split at h
        · rename_i hc
          rw [if_pos hc]
          cases h2 : rowsG at_ f r3 with
          | none => rw [h2] at h; cases h
          | some q =>
            obtain ⟨rs3, r4⟩ := q
            rw [h2] at h
            cases h
            rw [rowsG_bar ha l2 hn h2]
            rfl
        · cases h
/-- what a whole pattern fits -/
def startL (n : Nat) : List Bool := true :: List.replicate n false
def fitL (rs : List (List Pce)) (t : List Nat) : Bool := (grpL rs t (startL t.length)).getD t.length false
end Go.Proofs.YtfhgnnlhacjnkaaDoor.PT

/-
  PLAIN LAWS ON PATTERNS (chapter 09): what bars, groups, plain letters fit: no program in sight.
-/
namespace Go.Proofs.YtfhgnnlhacjnkaaDoor.PT
set_option linter.unusedVariables false
set_option linter.unusedSimpArgs false

def AddsRs (rs : List (List Pce)) : Prop := ∀ ps ∈ rs, ∀ p ∈ ps, AddsD p.d
theorem patP_is {l : List Nat} {rs : List (List Pce)} (h : patP l = some rs) : rowsG (atomK 8) (l.length + 1) l = some (rs, []) := by
  unfold patP at h
  cases h1 : rowsG (atomK 8) (l.length + 1) l with
  | none => rw [h1] at h; cases h
  | some q =>
    obtain ⟨rs1, r⟩ := q
    rw [h1] at h
    simp only at h
    split at h
    · rename_i hr
      cases h
      rw [hr]
    · cases h
theorem patP_of {l : List Nat} {rs : List (List Pce)} (h : rowsG (atomK 8) (l.length + 1) l = some (rs, [])) : patP l = some rs := by
  unfold patP
  rw [h]
  exact if_pos rfl
theorem patP_adds {l : List Nat} {rs : List (List Pce)} (h : patP l = some rs) : AddsRs rs := rowsG_adds (atomK_adds 8) _ _ _ _ (patP_is h)
theorem startL_len (n : Nat) : (startL n).length = n + 1 := by unfold startL; simp
theorem startL_get (n i : Nat) : (startL n).getD i false = decide (i = 0) := by
  unfold startL
  cases i with
  | zero => rfl
  | succ i =>
    simp only [List.getD_eq_getElem?_getD, List.getElem?_cons_succ, List.getElem?_replicate]
    split <;> simp
theorem grpL_get {rs : List (List Pce)} (h : AddsRs rs) {t : List Nat} {a : List Bool} (ha : a.length = t.length + 1) (i : Nat) : (grpL rs t a).getD i false = rs.any fun r => (rowL r t a).getD i false := by
  have key : ∀ (qs : List (List Pce)) (e : List Bool), AddsRs qs → e.length = t.length + 1 → (qs.foldl (fun o r => orL o (rowL r t a)) e).getD i false = (e.getD i false || qs.any fun r => (rowL r t a).getD i false) := by
    intro qs
    induction qs with
    | nil => intro e _ _; simp
    | cons q qs ih =>
      intro e hq he
      have hl := (rowL_adds (t := t) fun p hp => hq q List.mem_cons_self p hp t).len a ha
      rw [List.foldl_cons, ih _ (fun r hr => hq r (List.mem_cons_of_mem _ hr)) (by rw [orL_len (by omega)]; exact he), orL_get (by omega), List.any_cons, Bool.or_assoc]
  unfold grpL
  rw [key rs _ h ((noneL_adds _).len a ha), noneL_get, Bool.false_or]
theorem patP_bar {l l2 : List Nat} {rs rs2 : List (List Pce)} (h : patP l = some rs) (h2 : patP l2 = some rs2) : patP (l ++ 124 :: l2) = some (rs ++ rs2) := by
  refine patP_of ?_
  have := rowsG_bar (atomK_app 8) l2 (patP_is h2) (patP_is h)
  rw [show (l ++ 124 :: l2).length + 1 = l.length + 1 + (l2.length + 1) by rw [List.length_append, List.length_cons]; omega]
  exact this
theorem fitL_bar {rs rs2 : List (List Pce)} (h : AddsRs rs) (h2 : AddsRs rs2) (t : List Nat) : fitL (rs ++ rs2) t = (fitL rs t || fitL rs2 t) := by
  unfold fitL
  have h3 : AddsRs (rs ++ rs2) := fun q hq => (List.mem_append.1 hq).elim (h q) (h2 q)
  rw [grpL_get h3 (startL_len _), grpL_get h (startL_len _), grpL_get h2 (startL_len _), List.any_append]
/-- a group by itself -/
theorem atomK_group {k : Nat} {l : List Nat} {rs : List (List Pce)} {r : List Nat} (x : List Nat) (h : rowsG (atomK k) ((l ++ [41]).length + 1) (l ++ [41]) = some (rs, 41 :: r)) : atomK (k + 1) (40 :: (l ++ 41 :: x)) = some (grpL rs, r ++ x) := by
  have h1 := rowsG_stop (atomK_app k) x (g := (l ++ 41 :: x).length + 1) (by simp) h
  rw [List.append_assoc, List.singleton_append] at h1
  unfold atomK
  rw [if_pos rfl, h1]
  simp only [List.cons_append]
  exact if_pos trivial
theorem rowsG_one {at_ : List Nat → Option (Den × List Nat)} {f g lo : Nat} {hi : Option Nat} {c : Nat} {l : List Nat} {d : Den} {r : List Nat} (hc : ¬ (c = 124 ∨ c = 41)) (ha : at_ (c :: l) = some (d, r)) (ho : oftenP (decide (c = 40)) r = some (lo, hi, [])) (hf : f = (c :: l).length) (hg : 0 < f) :
    rowsG at_ (g + 1) (c :: l) = some ([[⟨d, lo, hi⟩]], []) := by
  unfold rowsG
  have h1 : rowG at_ ((c :: l).length + 1) (c :: l) = some ([⟨d, lo, hi⟩], []) := by
    unfold rowG
    rw [if_neg hc, ha]
    simp only
    rw [ho]
    simp only
    rw [← hf]
    obtain ⟨m, rfl⟩ : ∃ m, f = m + 1 := ⟨f - 1, by omega⟩
    rfl
  rw [h1]
theorem patP_group {l : List Nat} {rs : List (List Pce)} (h : rowsG (atomK 7) ((l ++ [41]).length + 1) (l ++ [41]) = some (rs, [41])) : patP (40 :: (l ++ [41])) = some [[⟨grpL rs, 1, some 1⟩]] :=
  patP_of (rowsG_one (f := (40 :: (l ++ [41])).length) (by decide) (atomK_group [] h) rfl rfl (by simp))
theorem patP_maybe {l : List Nat} {rs : List (List Pce)} (h : rowsG (atomK 7) ((l ++ [41]).length + 1) (l ++ [41]) = some (rs, [41])) : patP (40 :: (l ++ [41, 63])) = some [[⟨grpL rs, 0, some 1⟩]] :=
  patP_of (rowsG_one (f := (40 :: (l ++ [41, 63])).length) (by decide) (atomK_group [63] h) rfl rfl (by simp))
/-- where the group is a pattern, what it holds is one, less deep -/
theorem patP_inner {l : List Nat} {rs : List (List Pce)} (h : patP l = some rs) (h2 : patP (40 :: (l ++ [41])) ≠ none) : rowsG (atomK 7) ((l ++ [41]).length + 1) (l ++ [41]) = some (rs, [41]) := by
  have h8 := patP_is h
  have h9 := rowsG_app (atomK_app 8) [] (g := (l ++ [41]).length + 1) (by rw [List.length_append]; omega) h8
  rw [List.nil_append] at h9
  cases h1 : atomK 8 (40 :: (l ++ [41])) with
  | none =>
    refine absurd ?_ h2
    unfold patP rowsG rowG
    rw [if_neg (by decide), h1]
  | some q =>
    unfold atomK at h1
    rw [if_pos rfl] at h1
    cases h3 : rowsG (atomK 7) ((l ++ [41]).length + 1) (l ++ [41]) with
    | none => rw [h3] at h1; cases h1
    | some q =>
      have h4 := rowsG_mono (fun l x => atomK_succ 7 l x) _ _ _ h3
      rw [h9] at h4
      cases h4
      rfl
theorem grp_one {rs : List (List Pce)} (h : AddsRs rs) (t : List Nat) : fitL [[⟨grpL rs, 1, some 1⟩]] t = fitL rs t := by
  have hd : AddsD (grpL rs) := fun t => grpL_adds fun q hq p hp => h q hq p hp t
  have hA : AddsRs [[⟨grpL rs, 1, some 1⟩]] := by
    intro q hq p hp
    rw [List.mem_singleton] at hq
    subst hq
    rw [List.mem_singleton] at hp
    subst hp
    exact hd
  unfold fitL
  rw [grpL_get hA (startL_len _)]
  simp only [List.any_cons, List.any_nil, Bool.or_false]
  rfl
theorem grp_maybe {rs : List (List Pce)} (h : AddsRs rs) (t : List Nat) : fitL [[⟨grpL rs, 0, some 1⟩]] t = (fitL rs t || decide (t = [])) := by
  have hd : AddsD (grpL rs) := fun t => grpL_adds fun q hq p hp => h q hq p hp t
  have hA : AddsRs [[⟨grpL rs, 0, some 1⟩]] := by
    intro q hq p hp
    rw [List.mem_singleton] at hq
    subst hq
    rw [List.mem_singleton] at hp
    subst hp
    exact hd
  unfold fitL
  rw [grpL_get hA (startL_len _)]
  simp only [List.any_cons, List.any_nil, Bool.or_false]
  show (orL (startL t.length) (grpL rs t (startL t.length))).getD t.length false = _
  rw [orL_get (by rw [startL_len, (hd t).len _ (startL_len _)]), startL_get, Bool.or_comm]
  congr 1
  cases t <;> simp
/-! ### Letters and digits -/
def alB (c : Nat) : Bool := (decide (48 ≤ c) && decide (c ≤ 57)) || ((decide (65 ≤ c) && decide (c ≤ 90)) || (decide (97 ≤ c) && decide (c ≤ 122)))
def oneP (c : Nat) : Pce := ⟨clsL (Klass.fits ⟨[(c, c)], false⟩), 1, some 1⟩
theorem alB_no {c : Nat} (h : alB c = true) : c ≠ 124 ∧ c ≠ 41 ∧ c ≠ 40 ∧ c ≠ 91 ∧ c ≠ 92 ∧ c ≠ 46 ∧ c ≠ 42 ∧ c ≠ 43 ∧ c ≠ 63 ∧ c ≠ 123 ∧ c ∉ [94, 36, 42, 43, 63, 41, 93, 123, 125, 124] := by
  unfold alB at h
  simp only [Bool.or_eq_true, Bool.and_eq_true, decide_eq_true_eq] at h
  refine ⟨by omega, by omega, by omega, by omega, by omega, by omega, by omega, by omega, by omega, by omega, fun hm => ?_⟩
  simp only [List.mem_cons, List.not_mem_nil, or_false] at hm
  omega
theorem rowG_plain (k : Nat) : ∀ (l : List Nat) (f : Nat), l.length < f → (∀ c ∈ l, alB c = true) → rowG (atomK (k + 1)) f l = some (l.map oneP, [])
  | _, 0, h, _ => by omega
  | [], f + 1, _, _ => rfl
  | c :: l, f + 1, hf, hl => by
    obtain ⟨h1, h2, h3, h4, h5, h6, _, _, _, _, h7⟩ := alB_no (hl c List.mem_cons_self)
    unfold rowG
    rw [if_neg (fun h => h.elim h1 h2)]
    have ha : atomK (k + 1) (c :: l) = some (clsL (Klass.fits ⟨[(c, c)], false⟩), l) := by
      unfold atomK
      rw [if_neg h3]
      unfold atomK
      rw [if_neg h4, if_neg h3, if_neg h5, if_neg h6, if_neg h7]
    rw [ha]
    simp only
    have ho : oftenP (decide (c = 40)) l = some (1, some 1, l) := by
      cases l with
      | nil => rfl
      | cons e l =>
        obtain ⟨_, _, _, _, _, _, g1, g2, g3, g4, _⟩ := alB_no (hl e (List.mem_cons_of_mem _ List.mem_cons_self))
        unfold oftenP
        simp only
        rw [if_neg g1, if_neg g2, if_neg g3, if_neg g4]
    rw [ho]
    simp only
    rw [rowG_plain k l f (by simp only [List.length_cons] at hf; omega) (fun e he => hl e (List.mem_cons_of_mem _ he))]
    rfl
theorem patP_plain {l : List Nat} (h : ∀ c ∈ l, alB c = true) : patP l = some [l.map oneP] := by
  refine patP_of ?_
  unfold rowsG
  rw [rowG_plain 7 l _ (by omega) h]
theorem one_fits (c x : Nat) : Klass.fits ⟨[(c, c)], false⟩ x = decide (x = c) := by
  unfold Klass.fits inSp
  simp only [List.any_cons, List.any_nil, Bool.or_false]
  by_cases h : x = c
  · subst h; simp
  · rw [decide_eq_false h]
    have : (decide (c ≤ x) && decide (x ≤ c)) = false := by
      cases hq : (decide (c ≤ x) && decide (x ≤ c))
      · rfl
      · simp only [Bool.and_eq_true, decide_eq_true_eq] at hq; omega
    rw [this]
    rfl
theorem oneP_get (c : Nat) (t : List Nat) {a : List Bool} (ha : a.length = t.length + 1) (i : Nat) : (pceL (oneP c) t a).getD i false = match i with
    | 0 => false
    | j + 1 => match t[j]? with
      | some x => a.getD j false && decide (x = c)
      | none => false := by
  show (clsL (Klass.fits ⟨[(c, c)], false⟩) t a).getD i false = _
  rw [clsL_get _ t a ha]
  cases i with
  | zero => rfl
  | succ j =>
    simp only
    cases t[j]? with
    | none => rfl
    | some x => simp only [one_fits]
theorem plain_row (t : List Nat) : ∀ (l : List Nat) (a : List Bool), a.length = t.length + 1 → ∀ i, (rowL (l.map oneP) t a).getD i false = (decide (l.length ≤ i ∧ i ≤ t.length) && (a.getD (i - l.length) false && decide ((t.drop (i - l.length)).take l.length = l)))
  | [], a, ha, i => by
    show a.getD i false = _
    simp only [List.length_nil, Nat.zero_le, true_and, Nat.sub_zero, List.take_zero, decide_true, Bool.and_true]
    by_cases hi : i ≤ t.length
    · rw [decide_eq_true hi, Bool.true_and]
    · rw [decide_eq_false hi, Bool.false_and, List.getD_eq_getElem?_getD, List.getElem?_eq_none (by omega)]; rfl
  | c :: l, a, ha, i => by
    have hA : Adds (t.length + 1) (pceL (oneP c) t) := pceL_adds (p := oneP c) (clsL_adds _ t)
    show (rowL (l.map oneP) t (pceL (oneP c) t a)).getD i false = _
    rw [plain_row t l _ (hA.len a ha) i, oneP_get c t ha]
    simp only [List.length_cons]
    by_cases hi : l.length + 1 ≤ i ∧ i ≤ t.length
    · obtain ⟨j, hj⟩ : ∃ j, i - l.length = j + 1 := ⟨i - l.length - 1, by omega⟩
      have hj2 : i - (l.length + 1) = j := by omega
      have hjt : j < t.length := by omega
      simp only [hj, hj2, decide_eq_true hi, decide_eq_true (show l.length ≤ i ∧ i ≤ t.length by omega), List.getElem?_eq_getElem hjt, Bool.true_and]
      rw [Bool.and_assoc]
      congr 1
      rw [List.drop_eq_getElem_cons hjt, List.take_succ_cons]
      by_cases hx : t[j] = c
      · rw [hx]; simp
      · rw [decide_eq_false hx, Bool.false_and, decide_eq_false (by intro h; exact hx (List.cons.inj h).1)]
    · rw [decide_eq_false hi, Bool.false_and]
      by_cases h2 : l.length ≤ i ∧ i ≤ t.length
      · have : i - l.length = 0 := by omega
        rw [this]
        simp
      · rw [decide_eq_false h2, Bool.false_and]
theorem fitL_plain (l t : List Nat) : fitL [l.map oneP] t = decide (t = l) := by
  have hA : AddsRs [l.map oneP] := by
    intro q hq p hp
    rw [List.mem_singleton] at hq
    subst hq
    obtain ⟨c, _, rfl⟩ := List.mem_map.1 hp
    exact fun t => clsL_adds _ t
  unfold fitL
  rw [grpL_get hA (startL_len _)]
  simp only [List.any_cons, List.any_nil, Bool.or_false]
  rw [plain_row t l _ (startL_len _), startL_get]
  by_cases h : t = l
  · subst h; simp
  · rw [decide_eq_false h]
    by_cases h1 : l.length ≤ t.length ∧ t.length ≤ t.length
    · rw [decide_eq_true h1, Bool.true_and]
      by_cases h2 : t.length - l.length = 0
      · rw [decide_eq_true h2, h2, List.drop_zero, Bool.true_and]
        refine decide_eq_false fun h3 => h ?_
        rw [List.take_of_length_le (by omega)] at h3
        exact h3
      · rw [decide_eq_false h2, Bool.false_and]
    · rw [decide_eq_false h1, Bool.false_and]
end Go.Proofs.YtfhgnnlhacjnkaaDoor.PT
