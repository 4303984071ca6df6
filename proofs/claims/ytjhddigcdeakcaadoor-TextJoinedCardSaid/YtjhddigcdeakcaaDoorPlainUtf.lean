/-
  PLAIN LAWS ON UTF-8: the reference's own reading of a sign against the decoder: no program in sight.
-/
import Derived.Lib.DecodeN
import Derived.Lib.ValidLaws
import Derived.Lib.MapLaws
import Derived.Lib.TrimUEq
import Derived.Test.YtjhddigcdeakcaaDoorPlainText
namespace Go.Proofs.YtjhddigcdeakcaaDoor.PT
open Go.Lib (decodeN)

/-- how many bytes the sign has (0: none), and whether it is great: out of what the decoder hands back -/
def sgOf (d : Nat × Nat) : Nat × Bool := if d.1 = 65533 ∧ d.2 = 1 then (0, false) else (d.2, decide (65535 < d.1))
def sgn (s : ByteArray) (k : Nat) : Nat × Bool := sgOf (Utf8.decode s k)
def B (s : ByteArray) (j : Nat) : Nat := (s.get! j).toNat
theorem B_at (s : ByteArray) (j : Nat) (h : j < s.size) : B s j = s[j].toNat := by
  unfold B ByteArray.get!
  congr 1
  exact getElem!_pos s.data j h
theorem B_lt (s : ByteArray) (j : Nat) : B s j < 256 := (s.get! j).toNat_lt
theorem sgn_N (s : ByteArray) (k : Nat) : sgn s k = sgOf (decodeN (s.size - k) (B s k) (B s (k + 1)) (B s (k + 2)) (B s (k + 3))) := by
  unfold sgn; rw [Lib.decode_at]; rfl

theorem sg_1 (n b0 b1 b2 b3 : Nat) (h : b0 < 128) : sgOf (decodeN n b0 b1 b2 b3) = (1, false) := by
  unfold decodeN sgOf
  rw [if_pos h, if_neg (by simp; omega)]
  simp; omega
theorem sg_none (n b0 b1 b2 b3 : Nat) (h0 : ¬ b0 < 128) (h1 : ¬ (194 ≤ b0 ∧ b0 < 224)) (h2 : ¬ (224 ≤ b0 ∧ b0 < 240)) (h3 : ¬ (240 ≤ b0 ∧ b0 < 245)) (hb : b0 < 256) : sgOf (decodeN n b0 b1 b2 b3) = (0, false) := by
  have : decodeN n b0 b1 b2 b3 = (65533, 1) := by
    unfold decodeN
    rw [if_neg h0]
    split
    · rw [if_neg (by omega)]
    · split
      · omega
      · split
        · rw [if_neg (by omega)]
        · rfl
  rw [this]; rfl

/-- the value of the first t bytes (the lead and t - 1 more) -/
def pv (base b0 b1 b2 b3 : Nat) : Nat → Nat
  | 1 => b0 - base
  | 2 => (b0 - base) * 64 + (b1 - 128)
  | 3 => ((b0 - base) * 64 + (b1 - 128)) * 64 + (b2 - 128)
  | _ => (((b0 - base) * 64 + (b1 - 128)) * 64 + (b2 - 128)) * 64 + (b3 - 128)
def Cont (n b : Nat) (t : Nat) : Prop := t < n ∧ 128 ≤ b ∧ b < 192
def bad (low c : Nat) : Prop := c < low ∨ 1114111 < c ∨ (55296 ≤ c ∧ c < 57344)
instance (low c : Nat) : Decidable (bad low c) := by unfold bad; exact inferInstance

theorem pv_2 (base b0 b1 b2 b3 : Nat) : pv base b0 b1 b2 b3 2 = (b0 - base) * 64 + (b1 - 128) := rfl
theorem pv_3 (base b0 b1 b2 b3 : Nat) : pv base b0 b1 b2 b3 3 = ((b0 - base) * 64 + (b1 - 128)) * 64 + (b2 - 128) := rfl
theorem pv_4 (base b0 b1 b2 b3 : Nat) : pv base b0 b1 b2 b3 4 = (((b0 - base) * 64 + (b1 - 128)) * 64 + (b2 - 128)) * 64 + (b3 - 128) := rfl
theorem sg_2 (n b0 b1 b2 b3 : Nat) (h : 194 ≤ b0 ∧ b0 < 224) (c1 : Cont n b1 1) : sgOf (decodeN n b0 b1 b2 b3) = if bad 128 (pv 192 b0 b1 b2 b3 2) then (0, false) else (2, decide (65535 < pv 192 b0 b1 b2 b3 2)) := by
  unfold Cont at c1
  have hd : decodeN n b0 b1 b2 b3 = ((b0 - 192) * 64 + (b1 - 128), 2) := by
    unfold decodeN
    rw [if_neg (by omega), if_pos (by omega), if_pos (by omega), show b0 % 32 * 64 + b1 % 64 = (b0 - 192) * 64 + (b1 - 128) by omega]
  rw [hd, pv_2, if_neg (by unfold bad; omega)]
  unfold sgOf
  rw [if_neg (by simp)]
theorem sg_2bad (n b0 b1 b2 b3 : Nat) (h : 194 ≤ b0 ∧ b0 < 224) (c1 : ¬ Cont n b1 1) (hb1 : b1 < 256) : sgOf (decodeN n b0 b1 b2 b3) = (0, false) := by
  unfold Cont at c1
  have hd : decodeN n b0 b1 b2 b3 = (65533, 1) := by
    unfold decodeN
    rw [if_neg (by omega), if_neg (by omega), if_neg (by omega), if_neg (by omega)]
  rw [hd]; rfl
theorem sg_fin (c q low : Nat) (hq : q ≠ 1) : sgOf (if c ≥ low ∧ (c < 55296 ∨ (57344 ≤ c ∧ c ≤ 1114111)) then (c, q) else (65533, 1)) = if bad low c then (0, false) else (q, decide (65535 < c)) := by
  by_cases hb : bad low c
  · rw [if_pos hb]
    unfold bad at hb
    rw [if_neg (by omega)]; rfl
  · rw [if_neg hb]
    unfold bad at hb
    rw [if_pos (by omega)]
    unfold sgOf
    rw [if_neg (by simp [hq])]
theorem sg_3 (n b0 b1 b2 b3 : Nat) (h : 224 ≤ b0 ∧ b0 < 240) (c1 : Cont n b1 1) (c2 : Cont n b2 2) : sgOf (decodeN n b0 b1 b2 b3) = if bad 2048 (pv 224 b0 b1 b2 b3 3) then (0, false) else (3, decide (65535 < pv 224 b0 b1 b2 b3 3)) := by
  unfold Cont at c1 c2
  have he : b0 % 16 * 4096 + b1 % 64 * 64 + b2 % 64 = ((b0 - 224) * 64 + (b1 - 128)) * 64 + (b2 - 128) := by omega
  unfold decodeN
  rw [if_neg (by omega), if_neg (by omega), if_pos (by omega), he, pv_3]
  generalize ((b0 - 224) * 64 + (b1 - 128)) * 64 + (b2 - 128) = c
  exact sg_fin c 3 2048 (by omega)
theorem sg_3bad (n b0 b1 b2 b3 : Nat) (h : 224 ≤ b0 ∧ b0 < 240) (c : ¬ (Cont n b1 1 ∧ Cont n b2 2)) (hb1 : b1 < 256) (hb2 : b2 < 256) : sgOf (decodeN n b0 b1 b2 b3) = (0, false) := by
  unfold Cont at c
  have hd : decodeN n b0 b1 b2 b3 = (65533, 1) := by
    unfold decodeN
    rw [if_neg (by omega), if_neg (by omega), if_neg (by omega), if_neg (by omega)]
  rw [hd]; rfl
theorem sg_4 (n b0 b1 b2 b3 : Nat) (h : 240 ≤ b0 ∧ b0 < 245) (c1 : Cont n b1 1) (c2 : Cont n b2 2) (c3 : Cont n b3 3) : sgOf (decodeN n b0 b1 b2 b3) = if bad 65536 (pv 240 b0 b1 b2 b3 4) then (0, false) else (4, decide (65535 < pv 240 b0 b1 b2 b3 4)) := by
  unfold Cont at c1 c2 c3
  have he : b0 % 8 * 262144 + b1 % 64 * 4096 + b2 % 64 * 64 + b3 % 64 = (((b0 - 240) * 64 + (b1 - 128)) * 64 + (b2 - 128)) * 64 + (b3 - 128) := by omega
  unfold decodeN
  rw [if_neg (by omega), if_neg (by omega), if_neg (by omega), if_pos (by omega), he, pv_4]
  generalize (((b0 - 240) * 64 + (b1 - 128)) * 64 + (b2 - 128)) * 64 + (b3 - 128) = c
  exact sg_fin c 4 65536 (by omega)
theorem sg_4bad (n b0 b1 b2 b3 : Nat) (h : 240 ≤ b0 ∧ b0 < 245) (c : ¬ (Cont n b1 1 ∧ Cont n b2 2 ∧ Cont n b3 3)) (hb1 : b1 < 256) (hb2 : b2 < 256) (hb3 : b3 < 256) : sgOf (decodeN n b0 b1 b2 b3) = (0, false) := by
  unfold Cont at c
  have hd : decodeN n b0 b1 b2 b3 = (65533, 1) := by
    unfold decodeN
    rw [if_neg (by omega), if_neg (by omega), if_neg (by omega), if_neg (by omega)]
  rw [hd]; rfl

/-- the three kinds of longer signs: what is taken off the lead byte, the least value, how many bytes follow -/
def Cls (base low m b0 : Nat) : Prop := (base = 192 ∧ low = 128 ∧ m = 1 ∧ 194 ≤ b0 ∧ b0 < 224) ∨ (base = 224 ∧ low = 2048 ∧ m = 2 ∧ 224 ≤ b0 ∧ b0 < 240) ∨ (base = 240 ∧ low = 65536 ∧ m = 3 ∧ 240 ≤ b0 ∧ b0 < 245)
def pvs (s : ByteArray) (k base t : Nat) : Nat := pv base (B s k) (B s (k + 1)) (B s (k + 2)) (B s (k + 3)) t
theorem sgn_bad {base low m : Nat} (s : ByteArray) (k : Nat) (hc : Cls base low m (B s k)) (t : Nat) (h1 : 1 ≤ t) (h2 : t ≤ m) (hn : ¬ Cont (s.size - k) (B s (k + t)) t) : sgn s k = (0, false) := by
  rw [sgn_N]
  have hb := B_lt s
  rcases hc with ⟨_, _, rfl, h⟩ | ⟨_, _, rfl, h⟩ | ⟨_, _, rfl, h⟩
  · obtain rfl : t = 1 := by omega
    exact sg_2bad _ _ _ _ _ h hn (hb _)
  · refine sg_3bad _ _ _ _ _ h (fun e => ?_) (hb _) (hb _)
    obtain rfl | rfl : t = 1 ∨ t = 2 := by omega
    · exact hn e.1
    · exact hn e.2
  · refine sg_4bad _ _ _ _ _ h (fun e => ?_) (hb _) (hb _) (hb _)
    obtain rfl | rfl | rfl : t = 1 ∨ t = 2 ∨ t = 3 := by omega
    · exact hn e.1
    · exact hn e.2.1
    · exact hn e.2.2
theorem sgn_good {base low m : Nat} (s : ByteArray) (k : Nat) (hc : Cls base low m (B s k)) (hn : ∀ t, 1 ≤ t → t < m + 1 → Cont (s.size - k) (B s (k + t)) t) :
    sgn s k = if bad low (pvs s k base (m + 1)) then (0, false) else (m + 1, decide (65535 < pvs s k base (m + 1))) := by
  rw [sgn_N]
  rcases hc with ⟨rfl, rfl, rfl, h⟩ | ⟨rfl, rfl, rfl, h⟩ | ⟨rfl, rfl, rfl, h⟩
  · exact sg_2 _ _ _ _ _ h (hn 1 (by omega) (by omega))
  · exact sg_3 _ _ _ _ _ h (hn 1 (by omega) (by omega)) (hn 2 (by omega) (by omega))
  · exact sg_4 _ _ _ _ _ h (hn 1 (by omega) (by omega)) (hn 2 (by omega) (by omega)) (hn 3 (by omega) (by omega))
theorem pvs_1 (s : ByteArray) (k base : Nat) : pvs s k base 1 = B s k - base := rfl
theorem pvs_succ (s : ByteArray) (k base t : Nat) (h1 : 1 ≤ t) (h2 : t ≤ 3) : pvs s k base (t + 1) = pvs s k base t * 64 + (B s (k + t) - 128) := by
  obtain rfl | rfl | rfl : t = 1 ∨ t = 2 ∨ t = 3 := by omega
  all_goals rfl
theorem pvs_le (s : ByteArray) (k base t : Nat) (h1 : 1 ≤ t) (h2 : t ≤ 4) : pvs s k base t ≤ 100000000 := by
  have hb := B_lt s
  have a0 := hb k
  have a1 := hb (k + 1)
  have a2 := hb (k + 2)
  have a3 := hb (k + 3)
  obtain rfl | rfl | rfl | rfl : t = 1 ∨ t = 2 ∨ t = 3 ∨ t = 4 := by omega
  · rw [pvs_1]; omega
  · rw [pvs, pv_2]; omega
  · rw [pvs, pv_3]; omega
  · rw [pvs, pv_4]; omega
theorem sgn_low (s : ByteArray) (k : Nat) (h : B s k < 128) : sgn s k = (1, false) := by rw [sgn_N]; exact sg_1 _ _ _ _ _ h
theorem sgn_none (s : ByteArray) (k : Nat) (h0 : ¬ B s k < 128) (h1 : ¬ (194 ≤ B s k ∧ B s k < 224)) (h2 : ¬ (224 ≤ B s k ∧ B s k < 240)) (h3 : ¬ (240 ≤ B s k ∧ B s k < 245)) : sgn s k = (0, false) := by
  rw [sgn_N]; exact sg_none _ _ _ _ _ h0 h1 h2 h3 (B_lt s k)
end Go.Proofs.YtjhddigcdeakcaaDoor.PT
