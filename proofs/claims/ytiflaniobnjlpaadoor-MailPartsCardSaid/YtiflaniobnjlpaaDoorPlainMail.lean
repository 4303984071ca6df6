/-
  PLAIN LAWS ON ADDRESSES OF MAIL (chapter 07): no program in sight.
-/
import Derived.Test.YtiflaniobnjlpaaDoorPlainJn
import Derived.Test.YtiflaniobnjlpaaDoorPlainQuery
import Derived.Test.YtiflaniobnjlpaaDoorPlainEscape
import Derived.Test.YtiflaniobnjlpaaDoorPlainStrip
import Derived.Test.YtiflaniobnjlpaaDoorPlainReplace
namespace Go.Proofs.YtiflaniobnjlpaaDoor.PT

def userS : List UInt8 := [46, 33, 35, 36, 37, 38, 39, 42, 43, 47, 61, 63, 94, 95, 123, 124, 125, 126, 45, 96]
/-- all bytes are letters, digits, or one of these signs -/
def allB (signs l : List UInt8) : Bool := l.all fun c => letterB c || inB c signs
def isLabel (l : List UInt8) : Bool := !l.isEmpty && (decide (l.length ≤ 63) && (allB [45] l && (decide (l.head? ≠ some 45) && decide (l.getLast? ≠ some 45))))
/-- behind a sign -/
def aft (c : UInt8) (l : List UInt8) : List UInt8 := l.drop ((upTo c l).length + 1)
theorem aft_at (c : UInt8) (a b : List UInt8) (h : c ∉ a) : aft c (a ++ c :: b) = b := by
  unfold aft
  rw [upTo_at c a b h, show a ++ c :: b = (a ++ [c]) ++ b by simp, show a.length + 1 = (a ++ [c]).length by simp, List.drop_left]
theorem aft_no (c : UInt8) (a : List UInt8) (h : c ∉ a) : aft c a = [] := by
  unfold aft
  rw [upTo_all c a h]
  exact List.drop_eq_nil_of_le (by omega)
theorem cut_aft (c : UInt8) (l : List UInt8) : Lib.cut l [c] = (upTo c l, aft c l, inB c l) := by
  rcases upTo_split c l with h | ⟨b, h⟩
  · rw [cut_no c l h, upTo_all c l h, aft_no c l h, inB_no h]
  · have hx := upTo_not c l
    have e1 : Lib.cut l [c] = (upTo c l, b, true) := by
      conv => lhs; rw [h]
      exact cut_yes c _ b hx
    have e2 : aft c l = b := by
      conv => lhs; rw [h]
      exact aft_at c _ b hx
    have e3 : inB c l = true := inB_yes (by rw [h]; simp)
    rw [e1, e2, e3]
def isAddr (l : List UInt8) : Bool := inB 64 l && (!(upTo 64 l).isEmpty && (allB userS (upTo 64 l) && (spl 46 [] (aft 64 l)).all isLabel))
def isList (l : List UInt8) : Bool := l.isEmpty || (spl 44 [] l).all fun a => isAddr (strip a)
def trimM (l : List UInt8) : List UInt8 := strip (ends [] l)
def cleanM (l : List UInt8) : List UInt8 := jn 44 ((spl 44 [] l).map strip)

theorem all_append (signs a b : List UInt8) : allB signs (a ++ b) = (allB signs a && allB signs b) := by
  unfold allB; rw [List.all_append]
theorem allB_take (signs : List UInt8) (s : ByteArray) (k : Nat) (h : k < s.size) : allB signs (s.data.toList.take (k + 1)) = (allB signs (s.data.toList.take k) && (letterB s[k] || inB s[k] signs)) := by
  rw [take_snoc s k h, all_append]
  simp [allB]
theorem allB_no (signs : List UInt8) (s : ByteArray) (k : Nat) (h : k < s.size) (hn : (letterB s[k] || inB s[k] signs) = false) : allB signs s.data.toList = false := by
  rw [← List.take_append_drop (k + 1) s.data.toList, all_append, allB_take signs s k h, hn]
  simp
/-- an address, from its parts -/
theorem isAddr_of (user host : List UInt8) (h : 64 ∉ user) : isAddr (user ++ 64 :: host) = (!user.isEmpty && (allB userS user && (spl 46 [] host).all isLabel)) := by
  unfold isAddr
  rw [upTo_at 64 user host h, aft_at 64 user host h, inB_yes (by simp)]
  simp
theorem isAddr_a (user : List UInt8) (h : 64 ∉ user) : isAddr (user ++ [64, 97]) = (!user.isEmpty && allB userS user) := by
  rw [show user ++ [64, 97] = user ++ 64 :: [97] from rfl, isAddr_of user [97] h]
  have : (spl 46 [] [97]).all isLabel = true := by decide
  rw [this, Bool.and_true]
theorem isAddr_label (l : List UInt8) (h : 46 ∉ l) : isAddr ([97, 64] ++ l) = isLabel l := by
  rw [show [97, 64] ++ l = [97] ++ 64 :: l from rfl, isAddr_of [97] l (by decide)]
  have e : spl 46 [] l = [l] := by
    have := spl_jn 46 [l] (by simpa using h) (by simp)
    simpa [jn] using this
  rw [e]
  have : (!([97] : List UInt8).isEmpty && allB userS [97]) = true := by decide
  simp only [List.all_cons, List.all_nil, Bool.and_true]
  rw [← Bool.and_assoc, this, Bool.true_and]

/-- strip leaves out, and adds nothing -/
theorem strip_mem (l : List UInt8) (c : UInt8) (h : c ∈ strip l) : c ∈ l := by
  obtain ⟨a, b, e, _⟩ := isStrip_strip l
  rw [e]; simp [h]
theorem cleanM_parts (l : List UInt8) : spl 44 [] (cleanM l) = (spl 44 [] l).map strip := by
  unfold cleanM
  refine spl_jn 44 _ (fun x hx => ?_) (by simpa using spl_ne 44 l [])
  obtain ⟨y, hy, rfl⟩ := List.mem_map.1 hx
  exact fun h => spl_no 44 l [] (by simp) y hy (strip_mem y 44 h)
theorem cleanM_twice (l : List UInt8) : cleanM (cleanM l) = cleanM l := by
  rw [show cleanM (cleanM l) = jn 44 ((spl 44 [] (cleanM l)).map strip) from rfl, cleanM_parts, List.map_map]
  unfold cleanM
  congr 1
  refine List.map_congr_left fun x _ => strip_strip x
theorem cleanM_list (l : List UInt8) (h : (cleanM l).isEmpty = false) : isList (cleanM l) = isList l := by
  unfold isList
  have h1 : l.isEmpty = false := by
    cases l with
    | nil => exact absurd h (by decide)
    | cons _ _ => rfl
  rw [h, h1, cleanM_parts, List.all_map]
  simp only [Bool.false_or]
  congr 1
  funext x
  show isAddr (strip (strip x)) = isAddr (strip x)
  rw [strip_strip]
theorem ends_none (l : List UInt8) (h : ∀ c ∈ l, brk c = false) : ends [] l = l := by
  induction l with
  | nil => rfl
  | cons c r ih =>
    rw [ends_cons_plain [] c r (h c (by simp)), ih (fun d hd => h d (by simp [hd]))]
theorem ends_nobrk : ∀ l : List UInt8, ∀ c ∈ ends [] l, brk c = false := by
  refine ends_cases (P := fun l => ∀ c ∈ ends [] l, brk c = false) ?_ ?_ ?_
  · intro c h; simp [ends] at h
  · intro r ih c h; rw [ends_crlf] at h; exact ih c h
  · intro c r hn ih d h
    rw [ends_one [] c r hn, List.mem_append] at h
    rcases h with h | h
    · split at h
      · simp at h
      · rename_i hb
        rw [List.mem_singleton] at h
        rw [h]; simpa using hb
    · exact ih d h
theorem trimM_twice (l : List UInt8) : trimM (trimM l) = trimM l := by
  unfold trimM
  rw [ends_none (strip (ends [] l)) (fun c hc => ends_nobrk l c (strip_mem _ c hc)), strip_strip]
theorem strip_le (l : List UInt8) : (strip l).length ≤ l.length := strip_len l
theorem cleanM_len (l : List UInt8) : (cleanM l).length ≤ (l.length + 1) * (l.length + 1) := by
  unfold cleanM
  have h := jn_len 44 ((spl 44 [] l).map strip) l.length (fun x hx => by
    obtain ⟨y, hy, rfl⟩ := List.mem_map.1 hx
    have h1 := strip_le y
    have h2 := spl_small 44 l [] y hy
    rw [List.length_nil] at h2
    omega)
  rw [List.length_map] at h
  have h2 := spl_count 44 l []
  exact Nat.le_trans h (Nat.mul_le_mul_right _ h2)
end Go.Proofs.YtiflaniobnjlpaaDoor.PT
