/-
  PLAIN LAWS ON PARTS READ (chapter 20): no program in sight.
-/
import Derived.Test.YtapbljaohhcpoaaDoorPlainUnn
import Derived.Test.YtapbljaohhcpoaaDoorPlainSplit
import Derived.Lib.IndexLaws
import Derived.Lib.SplitLaws
namespace Go.Proofs.YtapbljaohhcpoaaDoor.PT

/-- what is in quotes, and what is behind them -/
def qtd : List UInt8 → Option (List UInt8 × List UInt8)
  | [] => none
  | c :: r => if c = 10 ∨ c = 13 then none else if c = 34 then some ([], r) else (qtd r).map fun p => (c :: p.1, p.2)
theorem qtd_yes (p r : List UInt8) (h34 : 34 ∉ p) (h10 : 10 ∉ p) (h13 : 13 ∉ p) : qtd (p ++ 34 :: r) = some (p, r) := by
  induction p with
  | nil => simp [qtd]
  | cons c p ih =>
    simp only [List.mem_cons, not_or] at h34 h10 h13
    rw [List.cons_append, qtd, if_neg (by rintro (e | e); exact h10.1 e.symm; exact h13.1 e.symm), if_neg (fun e => h34.1 e.symm), ih h34.2 h10.2 h13.2]
    rfl
theorem qtd_bad (p r : List UInt8) (h : 10 ∈ p ∨ 13 ∈ p) (h34 : 34 ∉ p) : qtd (p ++ r) = none := by
  induction p with
  | nil => simp at h
  | cons c p ih =>
    simp only [List.mem_cons, not_or] at h34 h
    rw [List.cons_append, qtd]
    by_cases hc : c = 10 ∨ c = 13
    · rw [if_pos hc]
    · rw [if_neg hc, if_neg (fun e => h34.1 e.symm), ih (by
        rcases h with (e | e) | (e | e)
        · exact absurd (.inl e.symm) hc
        · exact .inl e
        · exact absurd (.inr e.symm) hc
        · exact .inr e) h34.2]
      rfl
theorem qtd_none (p : List UInt8) (h34 : 34 ∉ p) : qtd p = none := by
  induction p with
  | nil => rfl
  | cons c p ih =>
    simp only [List.mem_cons, not_or] at h34
    rw [qtd]
    split
    · rfl
    · rw [if_neg (fun e => h34.1 e.symm), ih h34.2]; rfl
/-- the same told by Cut -/
theorem qtd_cut (l : List UInt8) : qtd l = if (Lib.cut l [34]).2.2 = false ∨ 10 ∈ (Lib.cut l [34]).1 ∨ 13 ∈ (Lib.cut l [34]).1 then none else some ((Lib.cut l [34]).1, (Lib.cut l [34]).2.1) := by
  by_cases h : 34 ∈ l
  · obtain ⟨a, b, e, ha⟩ : ∃ a b, l = a ++ 34 :: b ∧ 34 ∉ a := by
      induction l with
      | nil => simp at h
      | cons c l ih =>
        by_cases hc : c = 34
        · exact ⟨[], l, by rw [hc]; rfl, by simp⟩
        · obtain ⟨a, b, e, ha⟩ := ih (by
            rcases List.mem_cons.1 h with e | e
            · exact absurd e.symm hc
            · exact e)
          exact ⟨c :: a, b, by rw [e]; rfl, by simp only [List.mem_cons, not_or]; exact ⟨fun e => hc e.symm, ha⟩⟩
    rw [(cut_at 34 l).2 a b e ha]
    subst e
    by_cases hb : 10 ∈ a ∨ 13 ∈ a
    · rw [if_pos (.inr hb), qtd_bad a _ hb ha]
    · rw [if_neg (by rintro (e | e); simp at e; exact hb e), qtd_yes a b ha (fun e => hb (.inl e)) (fun e => hb (.inr e))]
  · rw [(cut_at 34 l).1 h, if_pos (.inl rfl), qtd_none l h]
/-- an entry, its texts as lists -/
structure P5 where
  n : List UInt8
  v : List UInt8
  f : Bool
  fn : List UInt8
  t : List UInt8
/-- a part's head read, the value being told -/
def rdq (h v : List UInt8) : Option P5 :=
  if head1.isPrefixOf h then
    match qtd (h.drop 38) with
    | none => none
    | some (n, r) =>
      if r = [] then some ⟨unn n, v, false, [], []⟩
      else if head2.isPrefixOf r then
        match qtd (r.drop 12) with
        | none => none
        | some (f, q) => if head3.isPrefixOf q then (if 13 ∈ q.drop 16 ∨ 10 ∈ q.drop 16 then none else some ⟨unn n, v, true, unn f, q.drop 16⟩) else none
      else none
  else none
def crlf2 : List UInt8 := [13, 10, 13, 10]
/-- a part read -/
def rd (s : List UInt8) : Option P5 := if Lib.index s crlf2 = -1 then none else rdq (s.take (Lib.index s crlf2).toNat) (s.drop ((Lib.index s crlf2).toNat + 4))
def dash : List UInt8 := [45, 45]
def crlf : List UInt8 := [13, 10]
/-- what stands between two parts, but for the end of its line -/
def sep (b : List UInt8) : List UInt8 := crlf ++ dash ++ b
theorem sep_len (b : List UInt8) : (sep b).length = b.length + 4 := by simp [sep, crlf, dash]
/-- parts read one behind the other -/
def dec2 (b : List UInt8) (l : List UInt8) : Option (List P5) :=
  if _h : Lib.index l (sep b) = -1 then none
  else
    match rd (l.take (Lib.index l (sep b)).toNat) with
    | none => none
    | some x =>
      if l.drop ((Lib.index l (sep b)).toNat + (sep b).length) = dash ++ crlf then some [x]
      else if _hp : crlf.isPrefixOf (l.drop ((Lib.index l (sep b)).toNat + (sep b).length)) then (dec2 b (l.drop ((Lib.index l (sep b)).toNat + (sep b).length + 2))).map (x :: ·)
      else none
termination_by l.length
decreasing_by
  have h1 := (List.isPrefixOf_iff_prefix.1 _hp).length_le
  have h2 := sep_len b
  simp only [List.length_drop] at h1 ⊢
  simp only [crlf, List.length_cons, List.length_nil] at h1
  omega
/-- a text of parts read: the entries, or none -/
def decE (s b : List UInt8) : Option (List P5) :=
  if fitB b then
    if s = dash ++ b ++ dash ++ crlf then some []
    else if (dash ++ b ++ crlf).isPrefixOf s then dec2 b (s.drop (dash ++ b ++ crlf).length)
    else none
  else none
end Go.Proofs.YtapbljaohhcpoaaDoor.PT
