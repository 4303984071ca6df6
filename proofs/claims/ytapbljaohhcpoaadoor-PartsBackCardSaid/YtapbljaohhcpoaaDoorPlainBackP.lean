/-
  PLAIN LAWS ON PARTS READ (chapter 20), third: what was told is read back. No program in sight.
-/
import Derived.Test.YtapbljaohhcpoaaDoorPlainDec2
namespace Go.Proofs.YtapbljaohhcpoaaDoor.PT
set_option linter.unusedVariables false
set_option linter.unusedSimpArgs false
open Go.Lib (occAt)

theorem escN_clean (l : List UInt8) : ∀ c ∈ l.flatMap escN, c ≠ 10 ∧ c ≠ 13 ∧ c ≠ 34 := by
  intro c h
  rw [List.mem_flatMap] at h
  obtain ⟨d, _, h⟩ := h
  unfold escN at h
  split at h
  · simp at h; rcases h with rfl | rfl | rfl <;> decide
  · split at h
    · simp at h; rcases h with rfl | rfl | rfl <;> decide
    · split at h
      · simp at h; rcases h with rfl | rfl <;> decide
      · rename_i h10 h13 h34
        simp at h; subst h; exact ⟨h10, h13, h34⟩
theorem nm_clean (l : List UInt8) : 10 ∉ nm l ∧ 13 ∉ nm l ∧ 34 ∉ nm l := by
  have h := escN_clean (ends [13, 10] l)
  exact ⟨fun m => (h _ m).1 rfl, fun m => (h _ m).2.1 rfl, fun m => (h _ m).2.2 rfl⟩
theorem typ_clean (l : List UInt8) : 13 ∉ typ l ∧ 10 ∉ typ l := by
  unfold typ
  split
  · rename_i h
    rw [Bool.and_eq_true, List.all_eq_true] at h
    exact ⟨fun m => absurd (h.1 _ m) (by decide), fun m => absurd (h.1 _ m) (by decide)⟩
  · decide
/-- a part's head -/
def hd (n : List UInt8) (f : Bool) (fn t : List UInt8) : List UInt8 :=
  head1 ++ nm n ++ [34] ++ (if f then head2 ++ nm fn ++ [34] ++ head3 ++ typ t else [])
theorem prtP_hd (n v : List UInt8) (f : Bool) (fn t : List UInt8) : prtP n v f fn t = hd n f fn t ++ (crlf2 ++ carr f v) := by
  unfold prtP hd crlf2
  simp only [List.append_assoc]
theorem idx_H1 (A v : List UInt8) (h : 13 ∉ A) : Lib.index (A ++ (crlf2 ++ v)) crlf2 = (A.length : Nat) := by
  refine idx_at A crlf2 v fun j hj => ?_
  cases ho : occAt (A ++ (crlf2 ++ v)) crlf2 j
  · rfl
  · exfalso
    have h1 := Lib.occAt_head (show crlf2 = 13 :: [10, 13, 10] from rfl) ho
    rw [List.getElem?_append_left hj] at h1
    exact h (List.mem_of_getElem? h1)
theorem idx_H2 (A T v : List UInt8) (hA : 13 ∉ A) (hT : 13 ∉ T) : Lib.index ((A ++ (head3 ++ T)) ++ (crlf2 ++ v)) crlf2 = ((A ++ (head3 ++ T)).length : Nat) := by
  refine idx_at (A ++ (head3 ++ T)) crlf2 v fun j hj => ?_
  cases ho : occAt ((A ++ (head3 ++ T)) ++ (crlf2 ++ v)) crlf2 j
  · rfl
  · exfalso
    have h1 := Lib.occAt_head (show crlf2 = 13 :: [10, 13, 10] from rfl) ho
    rw [List.getElem?_append_left hj] at h1
    rcases Nat.lt_trichotomy j A.length with hlt | heq | hgt
    · rw [List.getElem?_append_left hlt] at h1
      exact hA (List.mem_of_getElem? h1)
    · subst heq
      obtain ⟨q, hq⟩ := occ_iff.1 ho
      rw [List.append_assoc, List.drop_left] at hq
      simp only [head3, crlf2, List.cons_append] at hq
      injection hq with _ hq
      injection hq with _ hq
      injection hq with hq _
      exact absurd hq (by decide)
    · rw [List.getElem?_append_right (by omega)] at h1
      obtain ⟨m, hm⟩ : ∃ m, j - A.length = m + 1 := ⟨j - A.length - 1, by omega⟩
      rw [hm, show head3 ++ T = 13 :: ([10, 67, 111, 110, 116, 101, 110, 116, 45, 84, 121, 112, 101, 58, 32] ++ T) from rfl, List.getElem?_cons_succ] at h1
      rcases List.mem_append.1 (List.mem_of_getElem? h1) with e | e
      · revert e; decide
      · exact hT e
theorem pre_app (p r : List UInt8) : p.isPrefixOf (p ++ r) = true := List.isPrefixOf_iff_prefix.2 ⟨r, rfl⟩
theorem rd_part (n v : List UInt8) (f : Bool) (fn t : List UInt8) :
    rd (prtP n v f fn t) = some ⟨unn (nm n), carr f v, f, if f then unn (nm fn) else [], if f then typ t else []⟩ := by
  obtain ⟨n10, n13, n34⟩ := nm_clean n
  obtain ⟨f10, f13, f34⟩ := nm_clean fn
  obtain ⟨t13, t10⟩ := typ_clean t
  have hl1 : head1.length = 38 := rfl
  have hl2 : head2.length = 12 := rfl
  have hl3 : head3.length = 16 := rfl
  have hA0 : (13 : UInt8) ∉ head1 ++ nm n ++ [34] := by
    simp only [List.mem_append, not_or]
    exact ⟨⟨by decide, n13⟩, by decide⟩
  rw [prtP_hd]
  have hi : Lib.index (hd n f fn t ++ (crlf2 ++ carr f v)) crlf2 = ((hd n f fn t).length : Nat) := by
    cases f
    · refine idx_H1 _ _ ?_
      unfold hd
      simpa using hA0
    · have e : hd n true fn t = (head1 ++ nm n ++ [34] ++ (head2 ++ nm fn ++ [34])) ++ (head3 ++ typ t) := by
        unfold hd; simp only [if_true, List.append_assoc]
      rw [e]
      refine idx_H2 _ _ _ ?_ t13
      rw [List.mem_append, not_or]
      refine ⟨hA0, ?_⟩
      simp only [List.mem_append, not_or]
      exact ⟨⟨by decide, f13⟩, by decide⟩
  unfold rd
  rw [if_neg (by rw [hi]; omega), hi]
  have e1 : (hd n f fn t ++ (crlf2 ++ carr f v)).take ((hd n f fn t).length : Int).toNat = hd n f fn t := by rw [Int.toNat_natCast, List.take_left]
  have e2 : (hd n f fn t ++ (crlf2 ++ carr f v)).drop (((hd n f fn t).length : Int).toNat + 4) = carr f v := by
    rw [Int.toNat_natCast, ← List.drop_drop, List.drop_left]; rfl
  rw [e1, e2]
  unfold rdq
  have e3 : hd n f fn t = head1 ++ (nm n ++ 34 :: (if f then head2 ++ (nm fn ++ 34 :: (head3 ++ typ t)) else [])) := by
    unfold hd
    cases f <;> simp [List.append_assoc]
  rw [e3, if_pos (pre_app _ _), show 38 = head1.length from rfl, List.drop_left, qtd_yes (nm n) _ n34 n10 n13]
  cases f
  · simp
  · simp only [if_true]
    rw [if_neg (by simp [head2]), if_pos (pre_app _ _), show 12 = head2.length from rfl, List.drop_left, qtd_yes (nm fn) _ f34 f10 f13]
    simp only
    rw [if_pos (pre_app _ _), show 16 = head3.length from rfl, List.drop_left, if_neg (by rintro (e | e); exact t13 e; exact t10 e)]
/-- the texts of parts one behind the other, told from behind the first boundary -/
def tailE (b : List UInt8) : List UInt8 → List (List UInt8) → List UInt8
  | p, [] => p ++ last b
  | p, q :: r => p ++ (sep b ++ (crlf ++ tailE b q r))
theorem idx_clear (b p r : List UInt8) (hb : 13 ∉ b) (hb0 : b ≠ []) (hp : Lib.contains p b = false) : Lib.index (p ++ (sep b ++ r)) (sep b) = (p.length : Nat) := by
  refine idx_at p (sep b) r fun j hj => ?_
  cases ho : occAt (p ++ (sep b ++ r)) (sep b) j
  · rfl
  · exfalso
    have h2 : occAt (p ++ (sep b ++ r)) (sep b) p.length = true := occ_iff.2 ⟨r, by rw [List.drop_left]⟩
    have hg := occ_gap (sep_tail hb) (sep_cons b ▸ ho) (sep_cons b ▸ h2) hj
    rw [← sep_cons, sep_len] at hg
    obtain ⟨q, hq⟩ := occ_iff.1 ho
    have h3 : p.drop (j + 4) ++ (sep b ++ r) = b ++ q := by
      rw [← List.drop_append_of_le_length (by omega), ← List.drop_drop, hq, sep_cons]; rfl
    have h4 : b <+: p.drop (j + 4) := by
      refine List.prefix_of_prefix_length_le ⟨q, rfl⟩ (h3 ▸ List.prefix_append _ _) (by rw [List.length_drop]; omega)
    obtain ⟨q', hq'⟩ := h4
    have : p = p.take (j + 4) ++ (b ++ q') := by rw [hq', List.take_append_drop]
    rw [this, contains_at] at hp
    cases hp
theorem dec2_tailE (b : List UInt8) (hb : 13 ∉ b) (hb0 : b ≠ []) (g : List UInt8 → P5) : ∀ (ps : List (List UInt8)) (p : List UInt8), (∀ x ∈ p :: ps, Lib.contains x b = false) → (∀ x ∈ p :: ps, rd x = some (g x)) → dec2 b (tailE b p ps) = some ((p :: ps).map g)
  | [], p, hc, hr => by
    rw [show tailE b p [] = p ++ (sep b ++ (dash ++ crlf)) from rfl, dec2_at b p _ (idx_clear b p _ hb hb0 (hc p (by simp))), hr p (by simp)]
    simp
  | q :: r, p, hc, hr => by
    rw [show tailE b p (q :: r) = p ++ (sep b ++ (crlf ++ tailE b q r)) from rfl, dec2_at b p _ (idx_clear b p _ hb hb0 (hc p (by simp))), hr p (by simp)]
    have h1 := dec2_tailE b hb hb0 g r q (fun x hx => hc x (List.mem_cons_of_mem _ hx)) (fun x hx => hr x (List.mem_cons_of_mem _ hx))
    have h2 : crlf ++ tailE b q r ≠ dash ++ crlf := fun e => by
      simp only [crlf, dash, List.cons_append] at e
      injection e with e _
      exact absurd e (by decide)
    simp only [if_neg h2, if_pos (pre_app crlf _)]
    rw [show (crlf ++ tailE b q r).drop 2 = tailE b q r from rfl, h1]
    rfl
/-- each piece as it is told -/
def encL20 (b : List UInt8) (ps : List (List UInt8)) : List UInt8 := ps.flatMap (fun p => [45, 45] ++ b ++ [13, 10] ++ p ++ [13, 10]) ++ ([45, 45] ++ b ++ [45, 45, 13, 10])
theorem encL20_tail (b : List UInt8) : ∀ (ps : List (List UInt8)) (p : List UInt8), encL20 b (p :: ps) = (dash ++ b ++ crlf) ++ tailE b p ps
  | [], p => by simp [encL20, tailE, last, sep, dash, crlf]
  | q :: r, p => by
    have h := encL20_tail b r q
    have e : encL20 b (p :: q :: r) = ([45, 45] ++ b ++ [13, 10] ++ p ++ [13, 10]) ++ encL20 b (q :: r) := by simp [encL20]
    rw [e, h, tailE]
    simp [sep, dash, crlf]
theorem decE_back (b : List UInt8) (hb : fitB b = true) (g : List UInt8 → P5) (ps : List (List UInt8)) (hc : ∀ x ∈ ps, Lib.contains x b = false) (hr : ∀ x ∈ ps, rd x = some (g x)) : decE (encL20 b ps) b = some (ps.map g) := by
  obtain ⟨h13, _, h0⟩ := fitB_13 hb
  unfold decE
  rw [if_pos hb]
  cases ps with
  | nil => rw [if_pos (by simp [encL20, dash, crlf])]; rfl
  | cons p ps =>
    rw [encL20_tail, if_neg, if_pos (pre_app _ _), List.drop_left]
    · exact dec2_tailE b h13 h0 g ps p hc hr
    · intro e
      simp only [List.append_assoc] at e
      have e2 := List.append_cancel_left (List.append_cancel_left e)
      simp only [crlf, dash, List.cons_append] at e2
      injection e2 with e2 _
      exact absurd e2 (by decide)
/-- a name without % is read to what it is -/
theorem unn_esc : ∀ l : List UInt8, 37 ∉ l → unn (l.flatMap escN) = l
  | [], _ => by simp [unn]
  | c :: r, h => by
    simp only [List.mem_cons, not_or] at h
    have ih := unn_esc r h.2
    have hE : escN c = if c = 10 then [37, 48, 65] else if c = 13 then [37, 48, 68] else if c = 34 then [37, 50, 50] else [c] := rfl
    rw [List.flatMap_cons, hE]
    by_cases h10 : c = 10
    · subst h10
      rw [if_pos rfl, show ([37, 48, 65] : List UInt8) ++ r.flatMap escN = 37 :: (48 :: 65 :: r.flatMap escN) from rfl, unn, if_pos (by simp [List.isPrefixOf])]
      rw [show (48 :: 65 :: r.flatMap escN).drop 2 = r.flatMap escN from rfl, ih]
    · rw [if_neg h10]
      by_cases h13 : c = 13
      · subst h13
        rw [if_pos rfl, show ([37, 48, 68] : List UInt8) ++ r.flatMap escN = 37 :: (48 :: 68 :: r.flatMap escN) from rfl, unn, if_neg (by simp [List.isPrefixOf]), if_pos (by simp [List.isPrefixOf])]
        rw [show (48 :: 68 :: r.flatMap escN).drop 2 = r.flatMap escN from rfl, ih]
      · rw [if_neg h13]
        by_cases h34 : c = 34
        · subst h34
          rw [if_pos rfl, show ([37, 50, 50] : List UInt8) ++ r.flatMap escN = 37 :: (50 :: 50 :: r.flatMap escN) from rfl, unn, if_neg (by simp [List.isPrefixOf]), if_neg (by simp [List.isPrefixOf]), if_pos (by simp [List.isPrefixOf])]
          rw [show (50 :: 50 :: r.flatMap escN).drop 2 = r.flatMap escN from rfl, ih]
        · rw [if_neg h34, show [c] ++ r.flatMap escN = c :: r.flatMap escN from rfl, unn, if_neg (by simp [List.isPrefixOf, h.1]), if_neg (by simp [List.isPrefixOf, h.1]), if_neg (by simp [List.isPrefixOf, h.1]), ih]
theorem ends_37 (w : List UInt8) (hw : 37 ∉ w) (l : List UInt8) (h : 37 ∉ l) : 37 ∉ ends w l := by
  induction l using ends_cases with
  | h0 => simp [ends]
  | h2 r ih =>
    rw [ends_crlf, List.mem_append, not_or]
    simp only [List.mem_cons, not_or] at h
    exact ⟨hw, ih h.2.2⟩
  | h1 c r hc ih =>
    rw [ends_one _ _ _ hc, List.mem_append, not_or]
    simp only [List.mem_cons, not_or] at h
    refine ⟨?_, ih h.2⟩
    split
    · exact hw
    · simp [h.1]
theorem unn_nm (l : List UInt8) (h : 37 ∉ l) : unn (nm l) = ends [13, 10] l := unn_esc _ (ends_37 _ (by decide) l h)
end Go.Proofs.YtapbljaohhcpoaaDoor.PT
