/-
  PLAIN LAWS ON PARTS READ (chapter 20), second: by pieces; what was told is read back. No program in sight.
-/
import Derived.Test.YtapbljaohhcpoaaDoorPlainDecode
namespace Go.Proofs.YtapbljaohhcpoaaDoor.PT
set_option linter.unusedVariables false
set_option linter.unusedSimpArgs false
open Go.Lib (occAt)

theorem occ_iff {s sub : List UInt8} {j : Nat} : occAt s sub j = true ↔ ∃ q, s.drop j = sub ++ q := by
  unfold occAt
  rw [List.isPrefixOf_iff_prefix]
  exact ⟨fun ⟨q, h⟩ => ⟨q, h.symm⟩, fun ⟨q, h⟩ => ⟨q, h.symm⟩⟩
theorem first_occ {s sub : List UInt8} : ∀ (n j : Nat), j ≤ n → occAt s sub j = true → ∃ i, i ≤ j ∧ occAt s sub i = true ∧ ∀ k, k < i → occAt s sub k = false
  | 0, j, hj, h => ⟨j, Nat.le_refl _, h, fun k hk => by omega⟩
  | n + 1, j, hj, h => by
    by_cases hx : ∃ k, k < j ∧ occAt s sub k = true
    · obtain ⟨k, hk, ho⟩ := hx
      obtain ⟨i, h1, h2, h3⟩ := first_occ n k (by omega) ho
      exact ⟨i, by omega, h2, h3⟩
    · exact ⟨j, Nat.le_refl _, h, fun k hk => by
        cases hk' : occAt s sub k
        · rfl
        · exact absurd ⟨k, hk, hk'⟩ hx⟩
theorem idx_cases (s sub : List UInt8) (hne : sub ≠ []) : (Lib.index s sub = -1 ∧ ∀ j, occAt s sub j = false) ∨ ∃ p r, s = p ++ (sub ++ r) ∧ Lib.index s sub = (p.length : Nat) ∧ ∀ j, j < p.length → occAt s sub j = false := by
  by_cases hx : ∃ j, occAt s sub j = true
  · obtain ⟨j, hj⟩ := hx
    obtain ⟨i, _, h2, h3⟩ := first_occ j j (Nat.le_refl _) hj
    right
    have hr : i + sub.length ≤ s.length := (Lib.occAt_room h2).resolve_right hne
    obtain ⟨q, hq⟩ := occ_iff.1 h2
    have hl : (s.take i).length = i := by rw [List.length_take]; omega
    refine ⟨s.take i, q, ?_, ?_, ?_⟩
    · rw [← hq, List.take_append_drop]
    · rw [hl]; exact Lib.index_first (by omega) h2 h3
    · rw [hl]; exact h3
  · left
    have hno : ∀ j, occAt s sub j = false := fun j => by
      cases hj : occAt s sub j
      · rfl
      · exact absurd ⟨j, hj⟩ hx
    exact ⟨Lib.index_none (fun j _ => hno j), hno⟩
theorem idx_at (p sub r : List UInt8) (h : ∀ j, j < p.length → occAt (p ++ (sub ++ r)) sub j = false) : Lib.index (p ++ (sub ++ r)) sub = (p.length : Nat) :=
  Lib.index_first (by simp) (occ_iff.2 ⟨r, by rw [List.drop_left]⟩) h
theorem occ_gap {c : UInt8} {tl s : List UInt8} {i j : Nat} (hc : c ∉ tl) (hi : occAt s (c :: tl) i = true) (hj : occAt s (c :: tl) j = true) (hij : i < j) : i + (c :: tl).length ≤ j := by
  rcases Nat.lt_or_ge j (i + (c :: tl).length) with h | h
  · exfalso
    have h1 := Lib.occAt_head rfl hj
    obtain ⟨q, hq⟩ := occ_iff.1 hi
    have h2 : (s.drop i)[j - i]? = some c := by rw [List.getElem?_drop, show i + (j - i) = j by omega]; exact h1
    rw [hq, List.getElem?_append_left (by omega), show j - i = (j - i - 1) + 1 by omega, List.getElem?_cons_succ] at h2
    exact hc (List.mem_of_getElem? h2)
  · exact h
theorem split_miss (s sub : List UInt8) (h : Lib.index s sub = -1) : Lib.split s sub = [s] := by
  unfold Lib.split
  rw [Lib.count_miss h]; rfl
theorem split_hit (s sub : List UInt8) (hs : sub ≠ []) (i : Nat) (h : Lib.index s sub = (i : Nat)) : Lib.split s sub = s.take i :: Lib.split (s.drop (i + sub.length)) sub := by
  unfold Lib.split
  rw [Lib.count_hit hs h, Nat.add_comm 1, Lib.splitK, if_neg (by rw [h]; simp), h]
  simp
/-- each piece read; none holds what stands between -/
def decP (b : List UInt8) : List (List UInt8) → Option (List P5)
  | [] => some []
  | p :: ps => match rd p with
    | none => none
    | some x => if Lib.contains p (sep b) then none else (decP b ps).map (x :: ·)
theorem decP_has (b p : List UInt8) (ps : List (List UInt8)) (h : Lib.contains p (sep b) = true) : decP b (p :: ps) = none := by
  unfold decP
  cases rd p with
  | none => rfl
  | some x => simp only [h, if_true]
theorem dec2_none (b l : List UInt8) (h : Lib.index l (sep b) = -1) : dec2 b l = none := by rw [dec2, dif_pos h]
theorem dec2_at (b p r : List UInt8) (h : Lib.index (p ++ (sep b ++ r)) (sep b) = (p.length : Nat)) :
    dec2 b (p ++ (sep b ++ r)) = match rd p with
      | none => none
      | some x => if r = dash ++ crlf then some [x] else if crlf.isPrefixOf r = true then (dec2 b (r.drop 2)).map (x :: ·) else none := by
  have e1 : (p ++ (sep b ++ r)).take p.length = p := by simp
  have e2 : (p ++ (sep b ++ r)).drop (p.length + (sep b).length) = r := by rw [← List.append_assoc, ← List.length_append, List.drop_left]
  have e3 : (p ++ (sep b ++ r)).drop (p.length + (sep b).length + 2) = r.drop 2 := by rw [← List.drop_drop, e2]
  rw [dec2, dif_neg (by rw [h]; omega)]
  simp only [h, Int.toNat_natCast, e1, e2, e3]
  cases rd p with
  | none => rfl
  | some x => simp
theorem sep_cons (b : List UInt8) : sep b = 13 :: (10 :: 45 :: 45 :: b) := rfl
theorem sep_ne (b : List UInt8) : sep b ≠ [] := by simp [sep_cons]
theorem sep_tail {b : List UInt8} (hb : 13 ∉ b) : (13 : UInt8) ∉ (10 :: 45 :: 45 :: b) := by
  simp only [List.mem_cons, not_or]
  exact ⟨by decide, by decide, by decide, hb⟩
theorem contains_at (p q r : List UInt8) : Lib.contains (p ++ (q ++ r)) q = true := by
  unfold Lib.contains
  by_cases hq : q = []
  · subst hq
    rw [Lib.index_empty]; rfl
  · rcases idx_cases (p ++ (q ++ r)) q hq with ⟨_, h⟩ | ⟨p', r', _, h, _⟩
    · have := h p.length
      rw [occ_iff.2 ⟨r, by rw [List.drop_left]⟩] at this
      cases this
    · rw [h]; simp
theorem contains_no (p q : List UInt8) (hq : q ≠ []) (h : ∀ j, occAt p q j = false) : Lib.contains p q = false := by
  unfold Lib.contains
  rw [Lib.index_none (fun j _ => h j)]; rfl
/-- an instance ahead of a border stands in what is behind it, too -/
theorem occ_left {p s q : List UInt8} {j : Nat} (h : occAt p q j = true) (hq : q ≠ []) : occAt (p ++ s) q j = true := by
  obtain ⟨r, hr⟩ := occ_iff.1 h
  have hl := (Lib.occAt_room h).resolve_right hq
  exact occ_iff.2 ⟨r ++ s, by rw [List.drop_append_of_le_length (by omega), hr, List.append_assoc]⟩
theorem occ_pre {s q t : List UInt8} {j : Nat} (h : occAt s (q ++ t) j = true) : occAt s q j = true := by
  obtain ⟨r, hr⟩ := occ_iff.1 h
  exact occ_iff.2 ⟨t ++ r, by rw [hr, List.append_assoc]⟩
def last (b : List UInt8) : List UInt8 := sep b ++ (dash ++ crlf)
theorem dec2_suf (b : List UInt8) (hb : 13 ∉ b) (hb0 : b ≠ []) : ∀ (n : Nat) (q : List UInt8), q.length ≤ n → dec2 b (q ++ last b) = decP b (Lib.split q (sep b ++ crlf)) := by
  have hm : sep b ++ crlf ≠ [] := by simp [sep_cons]
  intro n
  induction n using Nat.strongRecOn with
  | ind n ih =>
  intro q hn
  rcases idx_cases (q ++ last b) (sep b) (sep_ne b) with ⟨_, h⟩ | ⟨p, r, e, hi, hno⟩
  · have := h q.length
    rw [occ_iff.2 ⟨dash ++ crlf, by rw [List.drop_left]; rfl⟩] at this
    cases this
  · have ho : occAt (q ++ last b) (sep b) p.length = true := occ_iff.2 ⟨r, by rw [e, List.drop_left]⟩
    have hoq : occAt (q ++ last b) (sep b) q.length = true := occ_iff.2 ⟨dash ++ crlf, by rw [List.drop_left]; rfl⟩
    have hle : p.length ≤ q.length := by
      rcases Nat.lt_or_ge q.length p.length with h | h
      · rw [hno _ h] at hoq; cases hoq
      · exact h
    have hnp : ∀ j, occAt p (sep b) j = false := fun j => by
      cases hj : occAt p (sep b) j
      · rfl
      · have hr := (Lib.occAt_room hj).resolve_right (sep_ne b)
        have hl := sep_len b
        have := occ_left (s := sep b ++ r) hj (sep_ne b)
        rw [← e, hno j (by omega)] at this
        cases this
    have hcp := contains_no p (sep b) (sep_ne b) hnp
    by_cases heq : p.length = q.length
    · have h2 := List.append_inj e heq.symm
      obtain ⟨rfl, h3⟩ := h2
      have hr : r = dash ++ crlf := (List.append_cancel_left (h3 : sep b ++ (dash ++ crlf) = sep b ++ r)).symm
      subst hr
      rw [show q ++ last b = q ++ (sep b ++ (dash ++ crlf)) from rfl] at hi ⊢
      rw [dec2_at b q _ hi, split_miss q _ (Lib.index_none fun j _ => by
        cases hj : occAt q (sep b ++ crlf) j
        · rfl
        · have := occ_pre hj
          rw [hnp j] at this; cases this)]
      unfold decP
      cases rd q with
      | none => rfl
      | some x => simp [hcp, decP]
    · have hgap := occ_gap (sep_tail hb) (sep_cons b ▸ ho) (sep_cons b ▸ hoq) (by omega)
      rw [← sep_cons] at hgap
      obtain ⟨r1, hr1⟩ : ∃ r1, q = p ++ (sep b ++ r1) := by
        refine ⟨q.drop (p.length + (sep b).length), ?_⟩
        have h1 : (q ++ last b).take (p.length + (sep b).length) = p ++ sep b := by
          rw [e, ← List.append_assoc, ← List.length_append, List.take_left]
        rw [List.take_append_of_le_length (by omega)] at h1
        rw [← List.append_assoc, ← h1, List.take_append_drop]
      subst hr1
      have hr : r = r1 ++ last b := by
        have : p ++ (sep b ++ (r1 ++ last b)) = p ++ (sep b ++ r) := by rw [← e]; simp
        exact (List.append_cancel_left (List.append_cancel_left this)).symm
      subst hr
      have hlr : r1 ++ last b ≠ dash ++ crlf := fun h => by
        have := congrArg List.length h
        simp [last, sep_cons, dash, crlf] at this
        omega
      rw [e] at hi
      rw [e, dec2_at b p _ hi]
      simp only [if_neg hlr]
      have hmid : ∀ (r2 : List UInt8), occAt (p ++ (sep b ++ r2)) (sep b ++ crlf) p.length = true ↔ ∃ r3, r2 = crlf ++ r3 := fun r2 => by
        rw [occ_iff, List.drop_left]
        constructor
        · rintro ⟨q, h⟩
          rw [List.append_assoc] at h
          exact ⟨q, List.append_cancel_left h⟩
        · rintro ⟨q, h⟩
          exact ⟨q, by rw [h, List.append_assoc]⟩
      by_cases hc : ∃ r3, r1 = crlf ++ r3
      · obtain ⟨r3, rfl⟩ := hc
        have hix : Lib.index (p ++ (sep b ++ (crlf ++ r3))) (sep b ++ crlf) = (p.length : Nat) :=
          Lib.index_first (by simp) ((hmid _).2 ⟨r3, rfl⟩) (fun j hj => by
            cases hjo : occAt (p ++ (sep b ++ (crlf ++ r3))) (sep b ++ crlf) j
            · rfl
            · have := occ_left (s := last b) (occ_pre hjo) (sep_ne b)
              rw [hno j hj] at this; cases this)
        have hl : (p ++ (sep b ++ (crlf ++ r3))).length ≤ n := hn
        have hih := ih r3.length (by
          have := sep_len b
          simp only [List.length_append, crlf, List.length_cons, List.length_nil] at hl
          omega) r3 (Nat.le_refl _)
        rw [split_hit _ _ hm _ hix, show (p ++ (sep b ++ (crlf ++ r3))).take p.length = p by simp,
          show (p ++ (sep b ++ (crlf ++ r3))).drop (p.length + (sep b ++ crlf).length) = r3 by
            rw [show p ++ (sep b ++ (crlf ++ r3)) = (p ++ (sep b ++ crlf)) ++ r3 by simp, ← List.length_append, List.drop_left]]
        have e1 : crlf.isPrefixOf ((crlf ++ r3) ++ last b) = true := by rw [List.isPrefixOf_iff_prefix]; exact ⟨r3 ++ last b, by simp⟩
        have e2 : ((crlf ++ r3) ++ last b).drop 2 = r3 ++ last b := rfl
        simp only [if_pos e1, e2, hih]
        conv => rhs; unfold decP
        cases rd p with
        | none => rfl
        | some x => simp [hcp]
      · -- the text between two parts is no such text: the first piece holds it
        have hD : decP b (Lib.split (p ++ (sep b ++ r1)) (sep b ++ crlf)) = none := by
          rcases idx_cases (p ++ (sep b ++ r1)) (sep b ++ crlf) hm with ⟨h, _⟩ | ⟨p2, r2, e2, h2, h3⟩
          · rw [split_miss _ _ h]
            exact decP_has b _ _ (contains_at p (sep b) r1)
          · rw [split_hit _ _ hm _ h2]
            refine decP_has b _ _ ?_
            have ho2 : occAt (p ++ (sep b ++ r1)) (sep b ++ crlf) p2.length = true := occ_iff.2 ⟨r2, by rw [e2, List.drop_left]⟩
            have ho3 : occAt (p ++ (sep b ++ r1)) (sep b) p2.length = true := occ_pre ho2
            have ho4 : occAt (p ++ (sep b ++ r1)) (sep b) p.length = true := occ_iff.2 ⟨r1, by rw [List.drop_left]⟩
            have hge : p.length ≤ p2.length := by
              rcases Nat.lt_or_ge p2.length p.length with h | h
              · have := occ_left (s := last b) ho3 (sep_ne b)
                rw [hno _ h] at this; cases this
              · exact h
            have hne : p.length ≠ p2.length := fun he => hc ((hmid r1).1 (he ▸ ho2))
            have hg := occ_gap (sep_tail hb) (sep_cons b ▸ ho4) (sep_cons b ▸ ho3) (by omega)
            rw [← sep_cons] at hg
            rw [List.take_append, List.take_of_length_le hge, List.take_append, List.take_of_length_le (by omega)]
            exact contains_at p (sep b) _
        rw [hD]
        by_cases hp : crlf.isPrefixOf (r1 ++ last b) = true
        · -- r1 is empty
          simp only [if_pos hp]
          obtain ⟨t, ht⟩ := List.isPrefixOf_iff_prefix.1 hp
          have h0 : r1 = [] := by
            cases r1 with
            | nil => rfl
            | cons x r1 =>
              exfalso
              cases r1 with
              | nil =>
                simp only [crlf, last, sep_cons, List.cons_append, List.nil_append] at ht
                injection ht with _ ht
                injection ht with ht _
                exact absurd ht (by decide)
              | cons y r1 =>
                simp only [crlf, List.cons_append, List.nil_append] at ht
                injection ht with a1 ht
                injection ht with a2 ht
                exact hc ⟨r1, by rw [← a1, ← a2]; rfl⟩
          subst h0
          have hx : dec2 b (([] ++ last b).drop 2) = none := by
            refine dec2_none b _ ?_
            refine Lib.index_none fun j _ => ?_
            cases hj : occAt (([] ++ last b).drop 2) (sep b) j
            · rfl
            · exfalso
              have h5 := (Lib.occAt_room hj).resolve_right (sep_ne b)
              have h6 : occAt (last b) (sep b) (2 + j) = true := by
                obtain ⟨q, hq⟩ := occ_iff.1 hj
                exact occ_iff.2 ⟨q, by rw [← hq, List.nil_append, List.drop_drop]⟩
              have h7 : occAt (last b) (sep b) 0 = true := occ_iff.2 ⟨dash ++ crlf, rfl⟩
              have h8 := occ_gap (sep_tail hb) (sep_cons b ▸ h7) (sep_cons b ▸ h6) (by omega)
              rw [← sep_cons] at h8
              have h9 := sep_len b
              have h10 := List.length_pos_iff.2 hb0
              simp only [List.nil_append, last, List.length_drop, List.length_append, dash, crlf, List.length_cons, List.length_nil] at h5
              omega
          simp only [hx]
          cases rd p <;> rfl
        · simp only [if_neg hp]
          cases rd p <;> rfl
theorem dec2_no (b : List UInt8) : ∀ (n : Nat) (l : List UInt8), l.length ≤ n → (¬ ∃ q, l = q ++ last b) → dec2 b l = none := by
  intro n
  induction n using Nat.strongRecOn with
  | ind n ih =>
  intro l hn hno
  rcases idx_cases l (sep b) (sep_ne b) with ⟨h, _⟩ | ⟨p, r, e, hi, _⟩
  · exact dec2_none b l h
  · subst e
    have hlr : ¬ r = dash ++ crlf := fun h => hno ⟨p, by rw [h]; rfl⟩
    rw [dec2_at b p r hi]
    simp only [if_neg hlr]
    by_cases hp : crlf.isPrefixOf r = true
    · obtain ⟨t, rfl⟩ := List.isPrefixOf_iff_prefix.1 hp
      have h1 := ih t.length (by
        have := sep_len b
        simp only [List.length_append, crlf, List.length_cons, List.length_nil] at hn
        omega) t (Nat.le_refl _) (fun ⟨q, h⟩ => hno ⟨p ++ (sep b ++ (crlf ++ q)), by rw [h]; simp⟩)
      simp only [if_pos hp, show (crlf ++ t).drop 2 = t from rfl, h1]
      cases rd p <;> rfl
    · simp only [if_neg hp]
      cases rd p <;> rfl
theorem dec2_len (b : List UInt8) : ∀ (n : Nat) (l : List UInt8) (xs : List P5), l.length ≤ n → dec2 b l = some xs → xs.length ≤ l.length := by
  intro n
  induction n using Nat.strongRecOn with
  | ind n ih =>
  intro l xs hn h
  rcases idx_cases l (sep b) (sep_ne b) with ⟨hi, _⟩ | ⟨p, r, e, hi, _⟩
  · rw [dec2_none b l hi] at h; cases h
  · subst e
    rw [dec2_at b p r hi] at h
    have hsl := sep_len b
    simp only [List.length_append] at hn ⊢
    cases hr : rd p with
    | none => rw [hr] at h; cases h
    | some x =>
      rw [hr] at h
      simp only at h
      by_cases he : r = dash ++ crlf
      · rw [if_pos he] at h
        cases h
        simp; omega
      · rw [if_neg he] at h
        by_cases hp : crlf.isPrefixOf r = true
        · rw [if_pos hp] at h
          cases hd : dec2 b (r.drop 2) with
          | none => rw [hd] at h; cases h
          | some ys =>
            rw [hd] at h
            cases h
            have := ih (r.drop 2).length (by rw [List.length_drop]; omega) (r.drop 2) ys (Nat.le_refl _) hd
            rw [List.length_drop] at this
            rw [List.length_cons]
            omega
        · rw [if_neg hp] at h; cases h
theorem decE_len (s b : List UInt8) (xs : List P5) (h : decE s b = some xs) : xs.length ≤ s.length := by
  unfold decE at h
  split at h
  · split at h
    · cases h; simp
    · split at h
      · have := dec2_len b _ _ xs (Nat.le_refl _) h
        rw [List.length_drop] at this
        omega
      · cases h
  · cases h
theorem fitB_13 {b : List UInt8} (h : fitB b = true) : 13 ∉ b ∧ 10 ∉ b ∧ b ≠ [] := by
  unfold fitB at h
  rw [Bool.and_eq_true, Bool.and_eq_true, List.all_eq_true] at h
  refine ⟨fun hm => absurd (h.1 _ hm) (by decide), fun hm => absurd (h.1 _ hm) (by decide), fun e => ?_⟩
  subst e
  simp at h
end Go.Proofs.YtapbljaohhcpoaaDoor.PT
