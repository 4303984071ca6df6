import Derived.Test.YtfhgnnlhacjnkaaDoorPart1
import Derived.Lib.DecodeN
import Derived.Lib.ValidLaws
import Derived.Lib.MapLaws
import Derived.Lib.TrimUEq
/-
  PLAIN LAWS ON PATTERNS (chapter 09): classes item by item; whole patterns: no program in sight.
-/
namespace Go.Proofs.YtfhgnnlhacjnkaaDoor.PT
set_option linter.unusedVariables false
set_option linter.unusedSimpArgs false

theorem itemsP_fuel : ∀ (f g : Nat) (l : List Nat), l.length < f → l.length < g → itemsP f l = itemsP g l
  | 0, _, _, h, _ => by omega
  | _ + 1, 0, _, _, h => by omega
  | f + 1, g + 1, [], _, _ => rfl
  | f + 1, g + 1, c :: l, hf, hg => by
    unfold itemsP
    split
    · rfl
    · cases h1 : itemP (c :: l) with
      | none => rfl
      | some q =>
        obtain ⟨sp, r1⟩ := q
        have l1 := itemP_len h1
        simp only [List.length_cons] at hf hg l1
        simp only
        rw [itemsP_fuel f g r1 (by omega) (by omega)]
/-- the items of a class, up to ] -/
def itemsF (l : List Nat) : Option (List (Nat × Nat) × List Nat) := itemsP (l.length + 1) l
theorem itemsF_nil : itemsF [] = none := rfl
theorem itemsF_end (r : List Nat) : itemsF (93 :: r) = some ([], r) := rfl
theorem itemsF_cons {c : Nat} {l : List Nat} (h : c ≠ 93) : itemsF (c :: l) = (match itemP (c :: l) with
    | none => none
    | some (sp, r1) => match itemsF r1 with
      | none => none
      | some (sps, r2) => some (sp ++ sps, r2)) := by
  show itemsP ((c :: l).length + 1) (c :: l) = _
  unfold itemsP
  rw [if_neg h]
  cases h1 : itemP (c :: l) with
  | none => rfl
  | some q =>
    obtain ⟨sp, r1⟩ := q
    have l1 := itemP_len h1
    simp only
    unfold itemsF
    rw [itemsP_fuel _ (r1.length + 1) r1 (by omega) (by omega)]
    rfl
theorem itemP_93 (l : List Nat) : itemP (93 :: l) = none := by
  unfold itemP signP
  simp
theorem bodyP_eq (l : List Nat) : bodyP l = (match itemP l with
    | none => none
    | some (sp, r1) => match itemsF r1 with
      | none => none
      | some (sps, r2) => some (sp ++ sps, r2)) := by
  unfold bodyP
  cases h1 : itemP l with
  | none => rfl
  | some q =>
    obtain ⟨sp, r1⟩ := q
    have l1 := itemP_len h1
    simp only
    unfold itemsF
    rw [itemsP_fuel _ (r1.length + 1) r1 (by omega) (by omega)]
    rfl
theorem bodyP_items {l : List Nat} {x : List (Nat × Nat) × List Nat} (h : bodyP l = some x) : itemsF l = some x := by
  rw [bodyP_eq] at h
  cases l with
  | nil => simp [itemP, signP] at h
  | cons c l =>
    have hc : c ≠ 93 := by
      rintro rfl
      rw [itemP_93] at h
      cases h
    rw [itemsF_cons hc]
    exact h
theorem inSp_app (a b : List (Nat × Nat)) (x : Nat) : inSp (a ++ b) x = (inSp a x || inSp b x) := by unfold inSp; rw [List.any_append]
/-- does a sign fit d, w, s? -/
def namedP (e c : Nat) : Bool :=
  if e = 100 then digB c else if e = 119 then (digB c || ((decide (97 ≤ c) && decide (c ≤ 122)) || ((decide (65 ≤ c) && decide (c ≤ 90)) || decide (c = 95))))
  else (decide (c = 9) || (decide (c = 10) || (decide (c = 12) || (decide (c = 13) || decide (c = 32)))))
theorem named_in {e : Nat} (h : e = 100 ∨ e = 119 ∨ e = 115) (c : Nat) : namedP e c = inSp ((someP e).getD []) c := by
  rw [Bool.eq_iff_iff]
  rcases h with rfl | rfl | rfl
  · simp [namedP, someP, inSp, digB]
  · simp [namedP, someP, inSp, digB]
    omega
  · simp [namedP, someP, inSp]
    omega
theorem some_upper {e : Nat} (h : e = 68 ∨ e = 87 ∨ e = 83) : someP e = someP (e + 32) := by
  rcases h with rfl | rfl | rfl <;> rfl
/-- a whole pattern, by where its rows end -/
theorem patP_iff (l : List Nat) : (patP l).isSome = (match rowsF (atomK 8) l with
    | none => false
    | some (_, r) => decide (r.length = 0)) := by
  show _ = (match rowsG (atomK 8) (l.length + 1) l with | none => false | some (_, r) => decide (r.length = 0))
  unfold patP
  cases rowsG (atomK 8) (l.length + 1) l with
  | none => rfl
  | some q =>
    obtain ⟨rs, r⟩ := q
    simp only
    by_cases hr : r = []
    · rw [if_pos hr, hr]; rfl
    · rw [if_neg hr]
      have : r.length ≠ 0 := fun e => hr (List.length_eq_zero_iff.1 e)
      rw [decide_eq_false this]
      rfl
end Go.Proofs.YtfhgnnlhacjnkaaDoor.PT

/-
  PLAIN LAWS ON UTF-8: the reference's own reading of a sign against the decoder: no program in sight.
-/
namespace Go.Proofs.YtfhgnnlhacjnkaaDoor.PT
set_option linter.unusedVariables false
set_option linter.unusedSimpArgs false
open Go.Lib (decodeN)

/-- how many bytes the sign has (0: none), and whether it is great: out of what the decoder hands back -/
def sgOf (d : Nat × Nat) : Nat × Bool := if d.1 = 65533 ∧ d.2 = 1 then (0, false) else (d.2, decide (65535 < d.1))
def sgn (s : ByteArray) (k : Nat) : Nat × Bool := sgOf (Utf8.decode s k)
def B (s : ByteArray) (j : Nat) : Nat := (s.get! j).toNat
theorem B_at (s : ByteArray) (j : Nat) (h : j < s.size) : B s j = s[j].toNat := by
  unfold B ByteArray.get!
  congr 1
  exact getElem!_pos s.data j h
theorem B_lt (s : ByteArray) (j : Nat) : B s j < 256 := (s.get! j).toNat_lt
theorem sgn_N (s : ByteArray) (k : Nat) : sgn s k = sgOf (decodeN (s.size - k) (B s k) (B s (k + 1)) (B s (k + 2)) (B s (k + 3))) := by
  unfold sgn; rw [Lib.decode_at]; rfl

theorem sg_1 (n b0 b1 b2 b3 : Nat) (h : b0 < 128) : sgOf (decodeN n b0 b1 b2 b3) = (1, false) := by
  unfold decodeN sgOf
  rw [if_pos h, if_neg (by simp; omega)]
  simp; omega
theorem sg_none (n b0 b1 b2 b3 : Nat) (h0 : ¬ b0 < 128) (h1 : ¬ (194 ≤ b0 ∧ b0 < 224)) (h2 : ¬ (224 ≤ b0 ∧ b0 < 240)) (h3 : ¬ (240 ≤ b0 ∧ b0 < 245)) (hb : b0 < 256) : sgOf (decodeN n b0 b1 b2 b3) = (0, false) := by
  have : decodeN n b0 b1 b2 b3 = (65533, 1) := by
    unfold decodeN
    rw [if_neg h0]
    split
    · rw [if_neg (by omega)]
    · split
      · omega
      · split
        · rw [if_neg (by omega)]
        · rfl
  rw [this]; rfl

/-- the value of the first t bytes (the lead and t - 1 more) -/
def pv (base b0 b1 b2 b3 : Nat) : Nat → Nat
  | 1 => b0 - base
  | 2 => (b0 - base) * 64 + (b1 - 128)
  | 3 => ((b0 - base) * 64 + (b1 - 128)) * 64 + (b2 - 128)
  | _ => (((b0 - base) * 64 + (b1 - 128)) * 64 + (b2 - 128)) * 64 + (b3 - 128)
def Cont (n b : Nat) (t : Nat) : Prop := t < n ∧ 128 ≤ b ∧ b < 192
def bad (low c : Nat) : Prop := c < low ∨ 1114111 < c ∨ (55296 ≤ c ∧ c < 57344)
instance (low c : Nat) : Decidable (bad low c) := by unfold bad; exact inferInstance

theorem pv_2 (base b0 b1 b2 b3 : Nat) : pv base b0 b1 b2 b3 2 = (b0 - base) * 64 + (b1 - 128) := rfl
theorem pv_3 (base b0 b1 b2 b3 : Nat) : pv base b0 b1 b2 b3 3 = ((b0 - base) * 64 + (b1 - 128)) * 64 + (b2 - 128) := rfl
theorem pv_4 (base b0 b1 b2 b3 : Nat) : pv base b0 b1 b2 b3 4 = (((b0 - base) * 64 + (b1 - 128)) * 64 + (b2 - 128)) * 64 + (b3 - 128) := rfl
theorem sg_2 (n b0 b1 b2 b3 : Nat) (h : 194 ≤ b0 ∧ b0 < 224) (c1 : Cont n b1 1) : sgOf (decodeN n b0 b1 b2 b3) = if bad 128 (pv 192 b0 b1 b2 b3 2) then (0, false) else (2, decide (65535 < pv 192 b0 b1 b2 b3 2)) := by
  unfold Cont at c1
  have hd : decodeN n b0 b1 b2 b3 = ((b0 - 192) * 64 + (b1 - 128), 2) := by
    unfold decodeN
    rw [if_neg (by omega), if_pos (by omega), if_pos (by omega), show b0 % 32 * 64 + b1 % 64 = (b0 - 192) * 64 + (b1 - 128) by omega]
  rw [hd, pv_2, if_neg (by unfold bad; omega)]
  unfold sgOf
  rw [if_neg (by simp)]
theorem sg_2bad (n b0 b1 b2 b3 : Nat) (h : 194 ≤ b0 ∧ b0 < 224) (c1 : ¬ Cont n b1 1) (hb1 : b1 < 256) : sgOf (decodeN n b0 b1 b2 b3) = (0, false) := by
  unfold Cont at c1
  have hd : decodeN n b0 b1 b2 b3 = (65533, 1) := by
    unfold decodeN
    rw [if_neg (by omega), if_neg (by omega), if_neg (by omega), if_neg (by omega)]
  rw [hd]; rfl
theorem sg_fin (c q low : Nat) (hq : q ≠ 1) : sgOf (if c ≥ low ∧ (c < 55296 ∨ (57344 ≤ c ∧ c ≤ 1114111)) then (c, q) else (65533, 1)) = if bad low c then (0, false) else (q, decide (65535 < c)) := by
  by_cases hb : bad low c
  · rw [if_pos hb]
    unfold bad at hb
    rw [if_neg (by omega)]; rfl
  · rw [if_neg hb]
    unfold bad at hb
    rw [if_pos (by omega)]
    unfold sgOf
    rw [if_neg (by simp [hq])]
theorem sg_3 (n b0 b1 b2 b3 : Nat) (h : 224 ≤ b0 ∧ b0 < 240) (c1 : Cont n b1 1) (c2 : Cont n b2 2) : sgOf (decodeN n b0 b1 b2 b3) = if bad 2048 (pv 224 b0 b1 b2 b3 3) then (0, false) else (3, decide (65535 < pv 224 b0 b1 b2 b3 3)) := by
  unfold Cont at c1 c2
  have he : b0 % 16 * 4096 + b1 % 64 * 64 + b2 % 64 = ((b0 - 224) * 64 + (b1 - 128)) * 64 + (b2 - 128) := by omega
  unfold decodeN
  rw [if_neg (by omega), if_neg (by omega), if_pos (by omega), he, pv_3]
  generalize ((b0 - 224) * 64 + (b1 - 128)) * 64 + (b2 - 128) = c
  exact sg_fin c 3 2048 (by omega)
theorem sg_3bad (n b0 b1 b2 b3 : Nat) (h : 224 ≤ b0 ∧ b0 < 240) (c : ¬ (Cont n b1 1 ∧ Cont n b2 2)) (hb1 : b1 < 256) (hb2 : b2 < 256) : sgOf (decodeN n b0 b1 b2 b3) = (0, false) := by
  unfold Cont at c
  have hd : decodeN n b0 b1 b2 b3 = (65533, 1) := by
    unfold decodeN
    rw [if_neg (by omega), if_neg (by omega), if_neg (by omega), if_neg (by omega)]
  rw [hd]; rfl
theorem sg_4 (n b0 b1 b2 b3 : Nat) (h : 240 ≤ b0 ∧ b0 < 245) (c1 : Cont n b1 1) (c2 : Cont n b2 2) (c3 : Cont n b3 3) : sgOf (decodeN n b0 b1 b2 b3) = if bad 65536 (pv 240 b0 b1 b2 b3 4) then (0, false) else (4, decide (65535 < pv 240 b0 b1 b2 b3 4)) := by
  unfold Cont at c1 c2 c3
  have he : b0 % 8 * 262144 + b1 % 64 * 4096 + b2 % 64 * 64 + b3 % 64 = (((b0 - 240) * 64 + (b1 - 128)) * 64 + (b2 - 128)) * 64 + (b3 - 128) := by omega
  unfold decodeN
  rw [if_neg (by omega), if_neg (by omega), if_neg (by omega), if_pos (by omega), he, pv_4]
  generalize (((b0 - 240) * 64 + (b1 - 128)) * 64 + (b2 - 128)) * 64 + (b3 - 128) = c
  exact sg_fin c 4 65536 (by omega)
theorem sg_4bad (n b0 b1 b2 b3 : Nat) (h : 240 ≤ b0 ∧ b0 < 245) (c : ¬ (Cont n b1 1 ∧ Cont n b2 2 ∧ Cont n b3 3)) (hb1 : b1 < 256) (hb2 : b2 < 256) (hb3 : b3 < 256) : sgOf (decodeN n b0 b1 b2 b3) = (0, false) := by
  unfold Cont at c
  have hd : decodeN n b0 b1 b2 b3 = (65533, 1) := by
    unfold decodeN
    rw [if_neg (by omega), if_neg (by omega), if_neg (by omega), if_neg (by omega)]
  rw [hd]; rfl

/-- the three kinds of longer signs: what is taken off the lead byte, the least value, how many bytes follow -/
def Cls (base low m b0 : Nat) : Prop := (base = 192 ∧ low = 128 ∧ m = 1 ∧ 194 ≤ b0 ∧ b0 < 224) ∨ (base = 224 ∧ low = 2048 ∧ m = 2 ∧ 224 ≤ b0 ∧ b0 < 240) ∨ (base = 240 ∧ low = 65536 ∧ m = 3 ∧ 240 ≤ b0 ∧ b0 < 245)
def pvs (s : ByteArray) (k base t : Nat) : Nat := pv base (B s k) (B s (k + 1)) (B s (k + 2)) (B s (k + 3)) t
theorem sgn_bad {base low m : Nat} (s : ByteArray) (k : Nat) (hc : Cls base low m (B s k)) (t : Nat) (h1 : 1 ≤ t) (h2 : t ≤ m) (hn : ¬ Cont (s.size - k) (B s (k + t)) t) : sgn s k = (0, false) := by
  rw [sgn_N]
  have hb := B_lt s
  rcases hc with ⟨_, _, rfl, h⟩ | ⟨_, _, rfl, h⟩ | ⟨_, _, rfl, h⟩
  · obtain rfl : t = 1 := by omega
    exact sg_2bad _ _ _ _ _ h hn (hb _)
  · refine sg_3bad _ _ _ _ _ h (fun e => ?_) (hb _) (hb _)
    obtain rfl | rfl : t = 1 ∨ t = 2 := by omega
    · exact hn e.1
    · exact hn e.2
  · refine sg_4bad _ _ _ _ _ h (fun e => ?_) (hb _) (hb _) (hb _)
    obtain rfl | rfl | rfl : t = 1 ∨ t = 2 ∨ t = 3 := by omega
    · exact hn e.1
    · exact hn e.2.1
    · exact hn e.2.2
theorem sgn_good {base low m : Nat} (s : ByteArray) (k : Nat) (hc : Cls base low m (B s k)) (hn : ∀ t, 1 ≤ t → t < m + 1 → Cont (s.size - k) (B s (k + t)) t) :
    sgn s k = if bad low (pvs s k base (m + 1)) then (0, false) else (m + 1, decide (65535 < pvs s k base (m + 1))) := by
  rw [sgn_N]
  rcases hc with ⟨rfl, rfl, rfl, h⟩ | ⟨rfl, rfl, rfl, h⟩ | ⟨rfl, rfl, rfl, h⟩
  · exact sg_2 _ _ _ _ _ h (hn 1 (by omega) (by omega))
  · exact sg_3 _ _ _ _ _ h (hn 1 (by omega) (by omega)) (hn 2 (by omega) (by omega))
  · exact sg_4 _ _ _ _ _ h (hn 1 (by omega) (by omega)) (hn 2 (by omega) (by omega)) (hn 3 (by omega) (by omega))
theorem pvs_1 (s : ByteArray) (k base : Nat) : pvs s k base 1 = B s k - base := rfl
theorem pvs_succ (s : ByteArray) (k base t : Nat) (h1 : 1 ≤ t) (h2 : t ≤ 3) : pvs s k base (t + 1) = pvs s k base t * 64 + (B s (k + t) - 128) := by
  obtain rfl | rfl | rfl : t = 1 ∨ t = 2 ∨ t = 3 := by omega
  all_goals rfl
theorem pvs_le (s : ByteArray) (k base t : Nat) (h1 : 1 ≤ t) (h2 : t ≤ 4) : pvs s k base t ≤ 100000000 := by
  have hb := B_lt s
  have a0 := hb k
  have a1 := hb (k + 1)
  have a2 := hb (k + 2)
  have a3 := hb (k + 3)
  obtain rfl | rfl | rfl | rfl : t = 1 ∨ t = 2 ∨ t = 3 ∨ t = 4 := by omega
  · rw [pvs_1]; omega
  · rw [pvs, pv_2]; omega
  · rw [pvs, pv_3]; omega
  · rw [pvs, pv_4]; omega
theorem sgn_low (s : ByteArray) (k : Nat) (h : B s k < 128) : sgn s k = (1, false) := by rw [sgn_N]; exact sg_1 _ _ _ _ _ h
theorem sgn_none (s : ByteArray) (k : Nat) (h0 : ¬ B s k < 128) (h1 : ¬ (194 ≤ B s k ∧ B s k < 224)) (h2 : ¬ (224 ≤ B s k ∧ B s k < 240)) (h3 : ¬ (240 ≤ B s k ∧ B s k < 245)) : sgn s k = (0, false) := by
  rw [sgn_N]; exact sg_none _ _ _ _ _ h0 h1 h2 h3 (B_lt s k)
end Go.Proofs.YtfhgnnlhacjnkaaDoor.PT

/-
  PLAIN LAWS: validity and units of 16 bits, step by step; texts joined: no program in sight.
-/
namespace Go.Proofs.YtfhgnnlhacjnkaaDoor.PT
set_option linter.unusedVariables false
set_option linter.unusedSimpArgs false
open Go.Lib (decodeN decodeL validD validGoD)

theorem size_lst (s : ByteArray) : s.data.toList.length = s.size := by simp
theorem decodeL_pos (l : List UInt8) : 1 ≤ (decodeL l).2 := by
  rw [Lib.decodeL_N]
  unfold decodeN
  repeat' split
  all_goals simp
def badL (l : List UInt8) : Prop := (decodeL l).1 = 65533 ∧ (decodeL l).2 = 1
instance (l : List UInt8) : Decidable (badL l) := by unfold badL; exact inferInstance
theorem validD_step (l : List UInt8) (h : l ≠ []) : validD l = if badL l then false else validD (l.drop (decodeL l).2) := by
  unfold validD
  cases l with
  | nil => exact absurd rfl h
  | cons c r =>
    rw [List.length_cons, validGoD, if_neg h]
    by_cases hb : badL (c :: r)
    · rw [if_pos hb]; unfold badL at hb; rw [if_pos hb]
    · rw [if_neg hb]; unfold badL at hb; rw [if_neg hb]
      have := decodeL_pos (c :: r)
      exact Lib.validGoD_fuel _ _ _ (by rw [List.length_drop, List.length_cons]; omega) (Nat.le_refl _)
theorem validD_nil : validD [] = true := rfl

/-- units of 16 bits -/
def unGo : Nat → List UInt8 → Nat
  | 0, _ => 0
  | n + 1, l => if l = [] then 0 else (if 65535 < (decodeL l).1 then 2 else 1) + unGo n (l.drop (decodeL l).2)
def units (l : List UInt8) : Nat := unGo l.length l
theorem unGo_nil : ∀ n, unGo n [] = 0
  | 0 => rfl
  | n + 1 => by rw [unGo, if_pos rfl]
theorem unGo_fuel : ∀ (n m : Nat) (l : List UInt8), l.length ≤ n → l.length ≤ m → unGo n l = unGo m l
  | n, m, [], _, _ => by rw [unGo_nil, unGo_nil]
  | 0, _, c :: r, h, _ => by simp at h
  | _ + 1, 0, c :: r, _, h => by simp at h
  | n + 1, m + 1, c :: r, h1, h2 => by
    have := decodeL_pos (c :: r)
    rw [unGo, if_neg (List.cons_ne_nil c r), unGo, if_neg (List.cons_ne_nil c r)]
    rw [unGo_fuel n m ((c :: r).drop (decodeL (c :: r)).2) (by rw [List.length_drop]; omega) (by rw [List.length_drop]; omega)]
theorem units_step (l : List UInt8) (h : l ≠ []) : units l = (if 65535 < (decodeL l).1 then 2 else 1) + units (l.drop (decodeL l).2) := by
  unfold units
  cases l with
  | nil => exact absurd rfl h
  | cons c r =>
    have := decodeL_pos (c :: r)
    rw [List.length_cons, unGo, if_neg h]
    rw [unGo_fuel r.length _ ((c :: r).drop (decodeL (c :: r)).2) (by rw [List.length_drop, List.length_cons]; omega) (Nat.le_refl _)]
theorem units_nil : units [] = 0 := rfl
theorem units_le : ∀ (n : Nat) (l : List UInt8), l.length ≤ n → units l ≤ 2 * l.length
  | _, [], _ => by simp [units_nil]
  | 0, c :: r, h => by simp at h
  | n + 1, c :: r, h => by
    have hp := decodeL_pos (c :: r)
    rw [units_step _ (by simp)]
    have := units_le n ((c :: r).drop (decodeL (c :: r)).2) (by rw [List.length_drop]; omega)
    rw [List.length_drop] at this
    have hl : 1 ≤ (c :: r).length := by simp
    split <;> omega

/-- the sign at the head, as the reference has it -/
theorem sgn_L (s : ByteArray) (k : Nat) : sgn s k = sgOf (decodeL (s.data.toList.drop k)) := by
  unfold sgn; rw [Lib.decodeL_drop]
theorem sgOf_bad (d : Nat × Nat) (h : d.1 = 65533 ∧ d.2 = 1) : sgOf d = (0, false) := if_pos h
theorem sgOf_ok (d : Nat × Nat) (h : ¬ (d.1 = 65533 ∧ d.2 = 1)) : sgOf d = (d.2, decide (65535 < d.1)) := if_neg h
theorem drop_ne (s : ByteArray) (k : Nat) (h : k < s.size) : s.data.toList.drop k ≠ [] := by
  intro e
  have := congrArg List.length e
  rw [List.length_drop, size_lst, List.length_nil] at this
  omega
theorem valid_bad (s : ByteArray) (k : Nat) (h : k < s.size) (h0 : (sgn s k).1 = 0) : validD (s.data.toList.drop k) = false := by
  rw [validD_step _ (drop_ne s k h), if_pos]
  unfold badL
  rw [sgn_L] at h0
  by_cases hb : (decodeL (s.data.toList.drop k)).1 = 65533 ∧ (decodeL (s.data.toList.drop k)).2 = 1
  · exact hb
  · rw [sgOf_ok _ hb] at h0
    have := decodeL_pos (s.data.toList.drop k)
    omega
theorem sgn_le (s : ByteArray) (k : Nat) (h : k < s.size) : k + (sgn s k).1 ≤ s.size := by
  have := Lib.decodeL_le _ (drop_ne s k h)
  rw [List.length_drop, size_lst] at this
  rw [sgn_L]
  unfold sgOf
  split
  · simp; omega
  · simp only; omega
theorem valid_ok (s : ByteArray) (k : Nat) (h : k < s.size) (h0 : (sgn s k).1 ≠ 0) : validD (s.data.toList.drop k) = validD (s.data.toList.drop (k + (sgn s k).1)) := by
  rw [validD_step _ (drop_ne s k h)]
  by_cases hb : badL (s.data.toList.drop k)
  · unfold badL at hb
    rw [sgn_L, sgOf_bad _ hb] at h0
    exact absurd rfl h0
  · rw [if_neg hb]
    unfold badL at hb
    rw [sgn_L, sgOf_ok _ hb, List.drop_drop]
theorem units_at (s : ByteArray) (k : Nat) (h : k < s.size) : units (s.data.toList.drop k) = (if (sgn s k).2 = true then 2 else 1) + units (s.data.toList.drop (k + (if (sgn s k).1 = 0 then 1 else (sgn s k).1))) := by
  rw [units_step _ (drop_ne s k h), sgn_L, List.drop_drop]
  by_cases hb : (decodeL (s.data.toList.drop k)).1 = 65533 ∧ (decodeL (s.data.toList.drop k)).2 = 1
  · rw [sgOf_bad _ hb, hb.1, hb.2]
    simp
  · have := decodeL_pos (s.data.toList.drop k)
    rw [sgOf_ok _ hb, if_neg (show ¬ (decodeL (s.data.toList.drop k)).2 = 0 by omega)]
    simp only [decide_eq_true_eq]
theorem units_dec (s : ByteArray) (k : Nat) (h : k < s.size) : units (s.data.toList.drop k) = (if 65535 < (Utf8.decode s k).1 then 2 else 1) + units (s.data.toList.drop (k + (Utf8.decode s k).2)) := by
  rw [units_step _ (drop_ne s k h), Lib.decodeL_drop, List.drop_drop]
end Go.Proofs.YtfhgnnlhacjnkaaDoor.PT

/-
  PLAIN LAWS: validity and units of two texts joined: no program in sight.
-/
namespace Go.Proofs.YtfhgnnlhacjnkaaDoor.PT
set_option linter.unusedVariables false
set_option linter.unusedSimpArgs false
open Go.Lib (decodeN decodeL validD)

theorem dec2 (n b0 b1 b2 b3 : Nat) (ha : ¬ b0 < 128) (h : b0 / 32 = 6 ∧ (1 < n ∧ b1 / 64 = 2)) : decodeN n b0 b1 b2 b3 = (if b0 % 32 * 64 + b1 % 64 ≥ 128 then (b0 % 32 * 64 + b1 % 64, 2) else (65533, 1)) := by
  unfold decodeN; rw [if_neg ha, if_pos h]
theorem dec3 (n b0 b1 b2 b3 : Nat) (ha : ¬ b0 < 128) (hb : ¬ b0 / 32 = 6) (h : b0 / 16 = 14 ∧ (1 < n ∧ b1 / 64 = 2) ∧ (2 < n ∧ b2 / 64 = 2)) : decodeN n b0 b1 b2 b3 =
    (if b0 % 16 * 4096 + b1 % 64 * 64 + b2 % 64 ≥ 2048 ∧ (b0 % 16 * 4096 + b1 % 64 * 64 + b2 % 64 < 55296 ∨ (57344 ≤ b0 % 16 * 4096 + b1 % 64 * 64 + b2 % 64 ∧ b0 % 16 * 4096 + b1 % 64 * 64 + b2 % 64 ≤ 1114111)) then (b0 % 16 * 4096 + b1 % 64 * 64 + b2 % 64, 3) else (65533, 1)) := by
  have h2 : ¬ (b0 / 32 = 6 ∧ (1 < n ∧ b1 / 64 = 2)) := fun e => hb e.1
  unfold decodeN; rw [if_neg ha, if_neg h2, if_pos h]
theorem dec4 (n b0 b1 b2 b3 : Nat) (ha : ¬ b0 < 128) (hb : ¬ b0 / 32 = 6) (hb3 : ¬ b0 / 16 = 14) (h : b0 / 8 = 30 ∧ (1 < n ∧ b1 / 64 = 2) ∧ (2 < n ∧ b2 / 64 = 2) ∧ (3 < n ∧ b3 / 64 = 2)) : decodeN n b0 b1 b2 b3 =
    (if b0 % 8 * 262144 + b1 % 64 * 4096 + b2 % 64 * 64 + b3 % 64 ≥ 65536 ∧ (b0 % 8 * 262144 + b1 % 64 * 4096 + b2 % 64 * 64 + b3 % 64 < 55296 ∨ (57344 ≤ b0 % 8 * 262144 + b1 % 64 * 4096 + b2 % 64 * 64 + b3 % 64 ∧ b0 % 8 * 262144 + b1 % 64 * 4096 + b2 % 64 * 64 + b3 % 64 ≤ 1114111)) then (b0 % 8 * 262144 + b1 % 64 * 4096 + b2 % 64 * 64 + b3 % 64, 4) else (65533, 1)) := by
  have h2 : ¬ (b0 / 32 = 6 ∧ (1 < n ∧ b1 / 64 = 2)) := fun e => hb e.1
  have h3 : ¬ (b0 / 16 = 14 ∧ (1 < n ∧ b1 / 64 = 2) ∧ (2 < n ∧ b2 / 64 = 2)) := fun e => hb3 e.1
  unfold decodeN; rw [if_neg ha, if_neg h2, if_neg h3, if_pos h]
theorem decBad (n b0 b1 b2 b3 : Nat) (ha : ¬ b0 < 128) (h2 : ¬ (b0 / 32 = 6 ∧ (1 < n ∧ b1 / 64 = 2))) (h3 : ¬ (b0 / 16 = 14 ∧ (1 < n ∧ b1 / 64 = 2) ∧ (2 < n ∧ b2 / 64 = 2)))
    (h4 : ¬ (b0 / 8 = 30 ∧ (1 < n ∧ b1 / 64 = 2) ∧ (2 < n ∧ b2 / 64 = 2) ∧ (3 < n ∧ b3 / 64 = 2))) : decodeN n b0 b1 b2 b3 = (65533, 1) := by
  unfold decodeN; rw [if_neg ha, if_neg h2, if_neg h3, if_neg h4]
theorem decodeN_ext (n n' b0 b1 b2 b3 c1 c2 c3 : Nat) (hn : n ≤ n') (h1 : 1 < n → c1 = b1) (h2 : 2 < n → c2 = b2) (h3 : 3 < n → c3 = b3)
    (hok : ¬ ((decodeN n b0 b1 b2 b3).1 = 65533 ∧ (decodeN n b0 b1 b2 b3).2 = 1)) : decodeN n' b0 c1 c2 c3 = decodeN n b0 b1 b2 b3 := by
  by_cases ha : b0 < 128
  · unfold decodeN; rw [if_pos ha, if_pos ha]
  by_cases hb : b0 / 32 = 6
  · by_cases hc : 1 < n ∧ b1 / 64 = 2
    · have e := h1 hc.1
      subst e
      rw [dec2 n' b0 c1 c2 c3 ha ⟨hb, by omega, hc.2⟩, dec2 n b0 c1 b2 b3 ha ⟨hb, hc⟩]
    · exfalso
      apply hok
      have : decodeN n b0 b1 b2 b3 = (65533, 1) := by
        exact decBad n b0 b1 b2 b3 ha (fun e => hc e.2) (by omega) (by omega)
      rw [this]; exact ⟨rfl, rfl⟩
  by_cases hb3 : b0 / 16 = 14
  · by_cases hc : (1 < n ∧ b1 / 64 = 2) ∧ (2 < n ∧ b2 / 64 = 2)
    · have e1 := h1 hc.1.1
      have e2 := h2 hc.2.1
      subst e1 e2
      rw [dec3 n' b0 c1 c2 c3 ha hb ⟨hb3, ⟨by omega, hc.1.2⟩, by omega, hc.2.2⟩, dec3 n b0 c1 c2 b3 ha hb ⟨hb3, hc⟩]
    · exfalso
      apply hok
      have : decodeN n b0 b1 b2 b3 = (65533, 1) := by
        exact decBad n b0 b1 b2 b3 ha (fun e => hb e.1) (fun e => hc e.2) (by omega)
      rw [this]; exact ⟨rfl, rfl⟩
  by_cases hb4 : b0 / 8 = 30
  · by_cases hc : (1 < n ∧ b1 / 64 = 2) ∧ (2 < n ∧ b2 / 64 = 2) ∧ (3 < n ∧ b3 / 64 = 2)
    · have e1 := h1 hc.1.1
      have e2 := h2 hc.2.1.1
      have e3 := h3 hc.2.2.1
      subst e1 e2 e3
      rw [dec4 n' b0 c1 c2 c3 ha hb hb3 ⟨hb4, ⟨by omega, hc.1.2⟩, ⟨by omega, hc.2.1.2⟩, by omega, hc.2.2.2⟩, dec4 n b0 c1 c2 c3 ha hb hb3 ⟨hb4, hc⟩]
    · exfalso
      apply hok
      have : decodeN n b0 b1 b2 b3 = (65533, 1) := by
        exact decBad n b0 b1 b2 b3 ha (fun e => hb e.1) (fun e => hb3 e.1) (fun e => hc e.2)
      rw [this]; exact ⟨rfl, rfl⟩
  · rw [decBad n' b0 c1 c2 c3 ha (fun e => hb e.1) (fun e => hb3 e.1) (fun e => hb4 e.1), decBad n b0 b1 b2 b3 ha (fun e => hb e.1) (fun e => hb3 e.1) (fun e => hb4 e.1)]
theorem getD_app (a b : List UInt8) (i : Nat) (h : i < a.length) : (a ++ b).getD i 0 = a.getD i 0 := by
  simp [List.getD, List.getElem?_append_left h]
theorem decodeL_app (a b : List UInt8) (ha : a ≠ []) (hok : ¬ badL a) : decodeL (a ++ b) = decodeL a := by
  have hl : 0 < a.length := List.length_pos_iff.2 ha
  unfold badL at hok
  rw [Lib.decodeL_N] at hok
  rw [Lib.decodeL_N, Lib.decodeL_N, getD_app a b 0 hl]
  exact decodeN_ext _ _ _ _ _ _ _ _ _ (by simp) (fun h => by rw [getD_app a b 1 h]) (fun h => by rw [getD_app a b 2 h]) (fun h => by rw [getD_app a b 3 h]) hok
theorem joined : ∀ (n : Nat) (a b : List UInt8), a.length ≤ n → validD a = true → units (a ++ b) = units a + units b ∧ validD (a ++ b) = validD b
  | _, [], b, _, _ => by simp [units_nil]
  | 0, c :: r, _, h, _ => by simp at h
  | n + 1, c :: r, b, h, hv => by
    have hne : (c :: r) ≠ [] := by simp
    have hp := decodeL_pos (c :: r)
    have hle := Lib.decodeL_le (c :: r) hne
    rw [validD_step _ hne] at hv
    by_cases hb : badL (c :: r)
    · rw [if_pos hb] at hv; cases hv
    · rw [if_neg hb] at hv
      have hd := decodeL_app (c :: r) b hne hb
      have hne2 : (c :: r) ++ b ≠ [] := by simp
      have hb2 : ¬ badL ((c :: r) ++ b) := by unfold badL; rw [hd]; exact hb
      have hdrop : ((c :: r) ++ b).drop (decodeL (c :: r)).2 = (c :: r).drop (decodeL (c :: r)).2 ++ b := List.drop_append_of_le_length hle
      obtain ⟨i1, i2⟩ := joined n ((c :: r).drop (decodeL (c :: r)).2) b (by rw [List.length_drop]; omega) hv
      rw [units_step _ hne2, units_step _ hne, hd, hdrop, i1, validD_step _ hne2, if_neg hb2, hd, hdrop, i2]
      exact ⟨by omega, rfl⟩
end Go.Proofs.YtfhgnnlhacjnkaaDoor.PT

/-
  PLAIN LAWS: the signs of a text, one by one: no program in sight.
-/
namespace Go.Proofs.YtfhgnnlhacjnkaaDoor.PT
set_option linter.unusedVariables false
set_option linter.unusedSimpArgs false
open Go.Lib (decodeN decodeL validD)

def sigGo : Nat → List UInt8 → List Nat
  | 0, _ => []
  | n + 1, l => if l = [] then [] else (decodeL l).1 :: sigGo n (l.drop (decodeL l).2)
/-- the signs of a text; what is none is 65533 -/
def sigs (l : List UInt8) : List Nat := sigGo l.length l
theorem sigGo_nil : ∀ n, sigGo n [] = []
  | 0 => rfl
  | n + 1 => by rw [sigGo, if_pos rfl]
theorem sigGo_fuel : ∀ (n m : Nat) (l : List UInt8), l.length ≤ n → l.length ≤ m → sigGo n l = sigGo m l
  | n, m, [], _, _ => by rw [sigGo_nil, sigGo_nil]
  | 0, _, c :: r, h, _ => by simp at h
  | _ + 1, 0, c :: r, _, h => by simp at h
  | n + 1, m + 1, c :: r, h1, h2 => by
    have := decodeL_pos (c :: r)
    rw [sigGo, if_neg (List.cons_ne_nil c r), sigGo, if_neg (List.cons_ne_nil c r)]
    rw [sigGo_fuel n m ((c :: r).drop (decodeL (c :: r)).2) (by rw [List.length_drop]; omega) (by rw [List.length_drop]; omega)]
theorem sigs_nil : sigs [] = [] := rfl
theorem sigs_step (l : List UInt8) (h : l ≠ []) : sigs l = (decodeL l).1 :: sigs (l.drop (decodeL l).2) := by
  unfold sigs
  cases l with
  | nil => exact absurd rfl h
  | cons c r =>
    have := decodeL_pos (c :: r)
    rw [List.length_cons, sigGo, if_neg h]
    rw [sigGo_fuel r.length _ ((c :: r).drop (decodeL (c :: r)).2) (by rw [List.length_drop, List.length_cons]; omega) (Nat.le_refl _)]
theorem sigs_len : ∀ (n : Nat) (l : List UInt8), l.length ≤ n → (sigs l).length ≤ l.length
  | _, [], _ => by simp [sigs_nil]
  | 0, c :: r, h => by simp at h
  | n + 1, c :: r, h => by
    have hp := decodeL_pos (c :: r)
    rw [sigs_step _ (by simp)]
    have := sigs_len n ((c :: r).drop (decodeL (c :: r)).2) (by rw [List.length_drop]; omega)
    rw [List.length_drop] at this
    have hl : 1 ≤ (c :: r).length := by simp
    rw [List.length_cons]
    omega
theorem sigs_eq_nil {l : List UInt8} : sigs l = [] ↔ l = [] := by
  constructor
  · intro h
    cases l with
    | nil => rfl
    | cons c r => rw [sigs_step _ (by simp)] at h; cases h
  · rintro rfl; rfl
/-- two texts, the first one UTF-8 -/
theorem sigs_joined : ∀ (n : Nat) (a b : List UInt8), a.length ≤ n → validD a = true → sigs (a ++ b) = sigs a ++ sigs b
  | _, [], b, _, _ => by simp [sigs_nil]
  | 0, c :: r, _, h, _ => by simp at h
  | n + 1, c :: r, b, h, hv => by
    have hne : (c :: r) ≠ [] := by simp
    have hp := decodeL_pos (c :: r)
    have hle := Lib.decodeL_le (c :: r) hne
    rw [validD_step _ hne] at hv
    by_cases hb : badL (c :: r)
    · rw [if_pos hb] at hv; cases hv
    · rw [if_neg hb] at hv
      have hd := decodeL_app (c :: r) b hne hb
      have hne2 : (c :: r) ++ b ≠ [] := by simp
      have hdrop : ((c :: r) ++ b).drop (decodeL (c :: r)).2 = (c :: r).drop (decodeL (c :: r)).2 ++ b := List.drop_append_of_le_length hle
      have i1 := sigs_joined n ((c :: r).drop (decodeL (c :: r)).2) b (by rw [List.length_drop]; omega) hv
      rw [sigs_step _ hne2, sigs_step _ hne, hd, hdrop, i1, List.cons_append]
theorem decodeL_low (c : UInt8) (r : List UInt8) (h : c.toNat < 128) : decodeL (c :: r) = (c.toNat, 1) := by
  rw [Lib.decodeL_N]
  unfold decodeN
  rw [if_pos (by simpa using h)]
  rfl
theorem sigs_low (c : UInt8) (r : List UInt8) (h : c.toNat < 128) : sigs (c :: r) = c.toNat :: sigs r := by
  rw [sigs_step _ (by simp), decodeL_low c r h]
  rfl
theorem valid_low (c : UInt8) (r : List UInt8) (h : c.toNat < 128) : validD (c :: r) = validD r := by
  rw [validD_step _ (by simp)]
  have hb : ¬ badL (c :: r) := by
    unfold badL
    rw [decodeL_low c r h]
    intro e
    have := e.1
    simp only at this
    omega
  rw [if_neg hb, decodeL_low c r h]
  rfl
theorem sigs_ascii : ∀ l : List UInt8, (∀ c ∈ l, c.toNat < 128) → sigs l = l.map (·.toNat) ∧ validD l = true
  | [], _ => ⟨rfl, rfl⟩
  | c :: r, h => by
    obtain ⟨h1, h2⟩ := sigs_ascii r fun x hx => h x (List.mem_cons_of_mem _ hx)
    have hc := h c List.mem_cons_self
    rw [sigs_low c r hc, valid_low c r hc, h1, h2]
    exact ⟨rfl, rfl⟩
/-- a low sign is its byte -/
theorem low_byte (c : UInt8) (r : List UInt8) (h : (decodeL (c :: r)).1 < 128) : c.toNat < 128 := by
  by_cases hc : c.toNat < 128
  · exact hc
  · exfalso
    rw [Lib.decodeL_N] at h
    simp only [List.getD_cons_zero] at h
    unfold decodeN at h
    rw [if_neg hc] at h
    split at h
    · split at h
      · simp only at h; omega
      · simp only at h; omega
    · split at h
      · split at h
        · simp only at h; omega
        · simp only at h; omega
      · split at h
        · split at h
          · simp only at h; omega
          · simp only at h; omega
        · simp only at h; omega
theorem sigs_back : ∀ (l s : List UInt8), (∀ c ∈ l, c.toNat < 128) → sigs s = l.map (·.toNat) → s = l
  | [], s, _, h => sigs_eq_nil.1 h
  | c :: l, [], _, h => by cases h
  | c :: l, x :: s, hl, h => by
    have hne : (x :: s) ≠ [] := by simp
    have h1 := h
    rw [sigs_step _ hne, List.map_cons] at h1
    have h2 := (List.cons.inj h1).1
    have hc := hl c List.mem_cons_self
    have hx : x.toNat < 128 := low_byte x s (by rw [h2]; exact hc)
    rw [sigs_low x s hx, List.map_cons] at h
    obtain ⟨h3, h4⟩ := List.cons.inj h
    rw [sigs_back l s (fun e he => hl e (List.mem_cons_of_mem _ he)) h4, UInt8.toNat_inj.1 h3]
/-- what a sign of 2, 3, 4 bytes is -/
theorem dec_code (n b0 b1 b2 b3 : Nat) : ((decodeN n b0 b1 b2 b3).2 = 2 → (decodeN n b0 b1 b2 b3).1 = b0 % 32 * 64 + b1 % 64) ∧ ((decodeN n b0 b1 b2 b3).2 = 3 → (decodeN n b0 b1 b2 b3).1 = (b0 % 16 * 64 + b1 % 64) * 64 + b2 % 64) ∧
    ((decodeN n b0 b1 b2 b3).2 = 4 → (decodeN n b0 b1 b2 b3).1 = ((b0 % 8 * 64 + b1 % 64) * 64 + b2 % 64) * 64 + b3 % 64) ∧ ((decodeN n b0 b1 b2 b3).2 = 1 → (decodeN n b0 b1 b2 b3).1 = b0 ∨ (decodeN n b0 b1 b2 b3).1 = 65533) := by
  unfold decodeN
  split
  · simp
  split
  · split <;> simp
  split
  · split
    · simp; omega
    · simp
  split
  · split
    · simp; omega
    · simp
  · simp
end Go.Proofs.YtfhgnnlhacjnkaaDoor.PT

/-
  PLAIN LAWS ON PATTERNS (chapter 09): on texts as bytes: what is right, what fits, bars, groups, plain letters: no program in sight.
-/
namespace Go.Proofs.YtfhgnnlhacjnkaaDoor.PT
set_option linter.unusedVariables false
set_option linter.unusedSimpArgs false
open Go.Lib (decodeN decodeL validD)

def rightF (p : List UInt8) : Bool := decide (p.length ≤ 200) && (validD p && (patP (sigs p)).isSome)
/-- whether it fits, and the error -/
def fitsF (p s : List UInt8) : Bool × Int :=
  if rightF p = false then (false, 1) else if 4000 < s.length then (false, 2) else (fitL ((patP (sigs p)).getD []) (sigs s), 0)
theorem rightF_iff {p : List UInt8} : rightF p = true ↔ p.length ≤ 200 ∧ validD p = true ∧ ∃ rs, patP (sigs p) = some rs := by
  unfold rightF
  rw [Bool.and_eq_true, Bool.and_eq_true, decide_eq_true_eq, Option.isSome_iff_exists]
theorem fitsF_ok {p s : List UInt8} {a : Bool} : fitsF p s = (a, 0) ↔ p.length ≤ 200 ∧ validD p = true ∧ s.length ≤ 4000 ∧ ∃ rs, patP (sigs p) = some rs ∧ fitL rs (sigs s) = a := by
  unfold fitsF
  constructor
  · intro h
    split at h
    · cases h
    · rename_i h1
      split at h
      · cases h
      · rename_i h2
        obtain ⟨l1, l2, rs, l3⟩ := rightF_iff.1 (by simpa using h1)
        rw [l3] at h
        exact ⟨l1, l2, by omega, rs, l3, (Prod.mk.inj h).1⟩
  · rintro ⟨l1, l2, l4, rs, l3, l5⟩
    have h1 := rightF_iff.2 ⟨l1, l2, rs, l3⟩
    rw [if_neg (by rw [h1]; decide), if_neg (by omega), l3]
    show (fitL rs (sigs s), (0 : Int)) = _
    rw [l5]
theorem fitsF_err (p s : List UInt8) : (fitsF p s).2 = 0 ∨ ((fitsF p s).2 = 1 ∧ (fitsF p s).1 = false) ∨ ((fitsF p s).2 = 2 ∧ (fitsF p s).1 = false ∧ 4000 < s.length) := by
  unfold fitsF
  split
  · exact .inr (.inl ⟨rfl, rfl⟩)
  · split
    · rename_i h; exact .inr (.inr ⟨rfl, rfl, h⟩)
    · exact .inl rfl
theorem valid_app {a b : List UInt8} (h : validD a = true) : validD (a ++ b) = validD b := (joined a.length a b (Nat.le_refl _) h).2
theorem sigs_app {a b : List UInt8} (h : validD a = true) : sigs (a ++ b) = sigs a ++ sigs b := sigs_joined a.length a b (Nat.le_refl _) h
/-- a bar between -/
theorem fitsF_bar {p q s : List UInt8} {a b : Bool} (h1 : fitsF p s = (a, 0)) (h2 : fitsF q s = (b, 0)) (hl : p.length + q.length ≤ 199) : fitsF (p ++ 124 :: q) s = (a || b, 0) := by
  obtain ⟨_, v1, ls, rs, e1, f1⟩ := fitsF_ok.1 h1
  obtain ⟨_, v2, _, rs2, e2, f2⟩ := fitsF_ok.1 h2
  refine fitsF_ok.2 ⟨by rw [List.length_append, List.length_cons]; omega, by rw [valid_app v1, valid_low 124 q (by decide)]; exact v2, ls, rs ++ rs2, ?_, ?_⟩
  · rw [sigs_app v1, sigs_low 124 q (by decide)]
    exact patP_bar e1 e2
  · rw [fitL_bar (patP_adds e1) (patP_adds e2), f1, f2]
theorem sigs_group {p : List UInt8} (v : validD p = true) (x : List UInt8) : sigs (40 :: (p ++ x)) = 40 :: (sigs p ++ sigs x) ∧ validD (40 :: (p ++ x)) = validD x := by
  rw [sigs_low 40 _ (by decide), valid_low 40 _ (by decide), sigs_app v, valid_app v]
  exact ⟨rfl, rfl⟩
/-- a group -/
theorem fitsF_group {p s : List UInt8} {a : Bool} (h : fitsF p s = (a, 0)) (hl : p.length ≤ 190) : ((fitsF (40 :: (p ++ [41])) s).2 = 1 ∧ (fitsF (40 :: (p ++ [41])) s).1 = false) ∨
    (fitsF (40 :: (p ++ [41])) s = (a, 0) ∧ fitsF (40 :: (p ++ [41, 63])) s = (a || decide (s = []), 0)) := by
  obtain ⟨_, v, ls, rs, e, f⟩ := fitsF_ok.1 h
  obtain ⟨g1, g2⟩ := sigs_group v [41]
  obtain ⟨k1, k2⟩ := sigs_group v [41, 63]
  have n1 : sigs [41] = [41] := rfl
  have n2 : sigs [41, 63] = [41, 63] := rfl
  have w1 : validD [41] = true := by decide +kernel
  have w2 : validD [41, 63] = true := by decide +kernel
  rw [n1] at g1
  rw [n2] at k1
  rw [w1] at g2
  rw [w2] at k2
  cases hp : patP (40 :: (sigs p ++ [41])) with
  | none =>
    left
    have hr : rightF (40 :: (p ++ [41])) = false := by
      unfold rightF
      rw [g1, hp]
      simp
    unfold fitsF
    rw [if_pos hr]
    exact ⟨rfl, rfl⟩
  | some rs' =>
    right
    have hi := patP_inner e (by rw [hp]; simp)
    have e1 := patP_group hi
    have e2 := patP_maybe hi
    refine ⟨fitsF_ok.2 ⟨by simp only [List.length_cons, List.length_append, List.length_nil]; omega, g2, ls, _, by rw [g1]; exact e1, ?_⟩, fitsF_ok.2 ⟨by simp only [List.length_cons, List.length_append, List.length_nil]; omega, k2, ls, _, by rw [k1]; exact e2, ?_⟩⟩
    · rw [grp_one (patP_adds e), f]
    · rw [grp_maybe (patP_adds e), f]
      congr 1
      rw [decide_eq_decide]
      exact sigs_eq_nil
/-- letters and digits -/
theorem fitsF_plain {p s : List UInt8} (h : ∀ c ∈ p, alB c.toNat = true) (hl : p.length ≤ 200) : fitsF p s = if 4000 < s.length then (false, 2) else (decide (s = p), 0) := by
  have hlow : ∀ c ∈ p, c.toNat < 128 := fun c hc => by
    have := h c hc
    unfold alB at this
    simp only [Bool.or_eq_true, Bool.and_eq_true, decide_eq_true_eq] at this
    omega
  obtain ⟨e1, e2⟩ := sigs_ascii p hlow
  have hp : patP (sigs p) = some [(sigs p).map oneP] := patP_plain fun c hc => by
    rw [e1] at hc
    obtain ⟨x, hx, rfl⟩ := List.mem_map.1 hc
    exact h x hx
  have hr : rightF p = true := rightF_iff.2 ⟨hl, e2, _, hp⟩
  unfold fitsF
  rw [if_neg (by rw [hr]; decide)]
  split
  · rfl
  · rw [hp]
    show (fitL [(sigs p).map oneP] (sigs s), (0 : Int)) = _
    rw [fitL_plain]
    congr 1
    rw [decide_eq_decide]
    constructor
    · intro e
      rw [e1] at e
      exact sigs_back p s hlow e
    · rintro rfl; rfl
end Go.Proofs.YtfhgnnlhacjnkaaDoor.PT
