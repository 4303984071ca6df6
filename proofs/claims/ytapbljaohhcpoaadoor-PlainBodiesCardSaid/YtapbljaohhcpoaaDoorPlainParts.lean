/-
  PLAIN LAWS ON PARTS (chapter 20): no program in sight.
-/
import Derived.Test.YtapbljaohhcpoaaDoorPlainReplace
import Derived.Test.YtapbljaohhcpoaaDoorPlainEscape
import Derived.Lib.Index
namespace Go.Proofs.YtapbljaohhcpoaaDoor.PT

def escN (c : UInt8) : List UInt8 := if c = 10 then [37, 48, 65] else if c = 13 then [37, 48, 68] else if c = 34 then [37, 50, 50] else [c]
/-- a name as it is told -/
def nm (l : List UInt8) : List UInt8 := (ends [13, 10] l).flatMap escN
theorem sub1_cons (o : UInt8) (new : List UInt8) (c : UInt8) (r : List UInt8) : sub1 o new (c :: r) = (if c = o then new else [c]) ++ sub1 o new r := by
  rw [show c :: r = [c] ++ r from rfl, sub1_append]
  congr 1
  by_cases h : c = o
  · rw [if_pos h]; simp [sub1, h]
  · rw [if_neg h]; simp [sub1, h]
theorem escN_rep (l : List UInt8) : sub1 34 [37, 50, 50] (sub1 10 [37, 48, 65] (sub1 13 [37, 48, 68] l)) = l.flatMap escN := by
  induction l with
  | nil => rfl
  | cons c r ih =>
    rw [List.flatMap_cons, ← ih, sub1_cons 13, sub1_append, sub1_append]
    congr 1
    unfold escN
    by_cases h13 : c = 13
    · subst h13; decide
    · rw [if_neg h13]
      by_cases h10 : c = 10
      · subst h10; decide
      · by_cases h34 : c = 34
        · subst h34; decide
        · simp [sub1, h10, h13, h34]
theorem escN_len (l : List UInt8) : (l.flatMap escN).length ≤ 3 * l.length := by
  induction l with
  | nil => simp
  | cons c r ih =>
    rw [List.flatMap_cons, List.length_append, List.length_cons]
    have : (escN c).length ≤ 3 := by
      unfold escN
      split
      · simp
      · split
        · simp
        · split <;> simp
    omega
theorem nm_len (l : List UInt8) : (nm l).length ≤ 9 * l.length := by
  have h1 := escN_len (ends [13, 10] l)
  have h2 := ends_len [13, 10] l
  unfold nm
  simp only [List.length_cons, List.length_nil] at h2
  omega
/-- a boundary -/
def fitB (l : List UInt8) : Bool := l.all (fun c => letterB c || decide (c = 45)) && (decide (0 < l.length) && decide (l.length ≤ 70))
def octet : List UInt8 := [97, 112, 112, 108, 105, 99, 97, 116, 105, 111, 110, 47, 111, 99, 116, 101, 116, 45, 115, 116, 114, 101, 97, 109]
def okT (c : UInt8) : Bool := decide (32 ≤ c.toNat) && decide (c.toNat ≤ 126)
/-- a type as it is told -/
def typ (l : List UInt8) : List UInt8 := if l.all okT && !l.isEmpty then l else octet
def head1 : List UInt8 := [67, 111, 110, 116, 101, 110, 116, 45, 68, 105, 115, 112, 111, 115, 105, 116, 105, 111, 110, 58, 32, 102, 111, 114, 109, 45, 100, 97, 116, 97, 59, 32, 110, 97, 109, 101, 61, 34]
def head2 : List UInt8 := [59, 32, 102, 105, 108, 101, 110, 97, 109, 101, 61, 34]
def head3 : List UInt8 := [13, 10, 67, 111, 110, 116, 101, 110, 116, 45, 84, 121, 112, 101, 58, 32]
/-- what a part carries -/
def carr (f : Bool) (v : List UInt8) : List UInt8 := if f then v else ends [13, 10] v
/-- a part -/
def prtP (n v : List UInt8) (f : Bool) (fn t : List UInt8) : List UInt8 :=
  head1 ++ nm n ++ [34] ++ (if f then head2 ++ nm fn ++ [34] ++ head3 ++ typ t else []) ++ [13, 10, 13, 10] ++ carr f v
theorem typ_len (l : List UInt8) : (typ l).length ≤ l.length + 24 := by
  unfold typ
  split
  · omega
  · have : octet.length = 24 := rfl
    omega
theorem fitB_all (s : ByteArray) (k : Nat) (h : k < s.size) : (s.data.toList.take (k + 1)).all (fun c => letterB c || decide (c = 45)) = ((s.data.toList.take k).all (fun c => letterB c || decide (c = 45)) && (letterB s[k] || decide (s[k] = 45))) := by
  rw [take_snoc s k h, List.all_append]; simp
theorem fitB_no (s : ByteArray) (k : Nat) (h : k < s.size) (hn : (letterB s[k] || decide (s[k] = 45)) = false) : fitB s.data.toList = false := by
  unfold fitB
  have : s.data.toList.all (fun c => letterB c || decide (c = 45)) = false := by
    rw [← List.take_append_drop (k + 1) s.data.toList, List.all_append, fitB_all s k h, hn]; simp
  rw [this]; rfl
theorem typ_no (s : ByteArray) (k : Nat) (h : k < s.size) (hn : okT s[k] = false) : typ s.data.toList = octet := by
  unfold typ
  have : s.data.toList.all okT = false := by
    rw [← List.take_append_drop k s.data.toList, List.all_append, drop_cons' s k h, List.all_cons, hn]; simp
  rw [this]; rfl
end Go.Proofs.YtapbljaohhcpoaaDoor.PT
