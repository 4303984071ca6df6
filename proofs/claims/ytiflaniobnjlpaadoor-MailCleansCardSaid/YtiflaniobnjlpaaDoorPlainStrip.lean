/-
  PLAIN LAWS ON BLANKS: Strip and Collapse: no program in sight.
-/
import Derived.Lib.SlTrimSet
import Derived.Test.YtiflaniobnjlpaaDoorPlainText
namespace Go.Proofs.YtiflaniobnjlpaaDoor.PT

def blanks : List UInt8 := [9, 10, 12, 13, 32]
def blk (c : UInt8) : Bool := blanks.contains c
def strip (l : List UInt8) : List UInt8 := Lib.trimS l blanks

/-- m is what is left of l without the blanks at its ends -/
def IsStrip (l m : List UInt8) : Prop := ∃ a b, l = a ++ m ++ b ∧ (∀ c ∈ a, blk c = true) ∧ (∀ c ∈ b, blk c = true) ∧ (∀ c, m.head? = some c → blk c = false) ∧ (∀ c, m.getLast? = some c → blk c = false)

theorem last_app (x y : List UInt8) (h : y ≠ []) : (x ++ y).getLast? = y.getLast? := by
  rw [List.getLast?_append]
  cases hy : y.getLast? with
  | none => exact absurd (List.getLast?_eq_none_iff.1 hy) h
  | some c => rfl
theorem dropWhile_all {p : UInt8 → Bool} {a : List UInt8} (h : ∀ c ∈ a, p c = true) (x : List UInt8) : (a ++ x).dropWhile p = x.dropWhile p := by
  induction a with
  | nil => rfl
  | cons c a ih =>
    rw [List.cons_append, List.dropWhile_cons_of_pos (h c (List.mem_cons_self ..))]
    exact ih (fun d hd => h d (List.mem_cons_of_mem _ hd))
theorem dropWhile_head {p : UInt8 → Bool} {x : List UInt8} (h : ∀ c, x.head? = some c → p c = false) : x.dropWhile p = x := by
  cases x with
  | nil => rfl
  | cons c x => rw [List.dropWhile_cons_of_neg (by rw [h c rfl]; simp)]
theorem strip_of {l m : List UInt8} (h : IsStrip l m) : strip l = m := by
  obtain ⟨a, b, rfl, ha, hb, hh, hl⟩ := h
  have hR : ∀ x, (∀ c, x.getLast? = some c → blk c = false) → Lib.trimRightS (x ++ b) blanks = x := by
    intro x hx
    unfold Lib.trimRightS
    rw [List.reverse_append, dropWhile_all (p := fun c => blanks.contains c) (fun c hc => hb c (List.mem_reverse.1 hc)), dropWhile_head, List.reverse_reverse]
    intro c hc
    rw [List.head?_reverse] at hc
    exact hx c hc
  unfold strip Lib.trimS
  by_cases hm : m = []
  · subst hm
    have e : Lib.trimRightS (a ++ [] ++ b) blanks = [] := by
      unfold Lib.trimRightS
      rw [List.reverse_eq_nil_iff]
      have : ∀ c ∈ (a ++ [] ++ b).reverse, blk c = true := by
        intro c hc
        rw [List.mem_reverse, List.append_nil, List.mem_append] at hc
        exact hc.elim (ha c) (hb c)
      have h := dropWhile_all (p := fun c => blanks.contains c) this []
      rw [List.append_nil] at h
      exact h
    rw [e]; rfl
  · rw [hR (a ++ m) (fun c hc => hl c (by rwa [last_app _ _ hm] at hc))]
    unfold Lib.trimLeftS
    rw [dropWhile_all (p := fun c => blanks.contains c) ha, dropWhile_head (p := fun c => blanks.contains c) hh]
theorem isStrip_strip (l : List UInt8) : IsStrip l (strip l) := by
  have hd : ∀ (p : UInt8 → Bool) (x : List UInt8), (∀ c, (x.dropWhile p).head? = some c → p c = false) := by
    intro p x c hc
    have := List.head?_dropWhile_not p x
    rw [hc] at this
    simpa using this
  have hsplit : ∀ x : List UInt8, x = x.takeWhile blk ++ x.dropWhile blk := fun x => (List.takeWhile_append_dropWhile).symm
  have hall : ∀ x : List UInt8, ∀ c ∈ x.takeWhile blk, blk c = true := fun x c hc => by
    have := List.all_takeWhile (p := blk) (l := x)
    rw [List.all_eq_true] at this
    exact this c hc
  let r := Lib.trimRightS l blanks
  have hr : l = r ++ (l.reverse.takeWhile blk).reverse := by
    have := congrArg List.reverse (hsplit l.reverse)
    rw [List.reverse_reverse, List.reverse_append] at this
    exact this
  have hs : r = r.takeWhile blk ++ strip l := hsplit r
  refine ⟨r.takeWhile blk, (l.reverse.takeWhile blk).reverse, ?_, hall r, fun c hc => hall _ c (List.mem_reverse.1 hc), hd blk r, ?_⟩
  · rw [← hs]; exact hr
  · intro c hc
    have : r.getLast? = some c := by
      rw [hs, last_app]
      · exact hc
      · intro e; rw [e] at hc; cases hc
    have h2 := hd blk l.reverse c
    apply h2
    have e : r = (l.reverse.dropWhile blk).reverse := rfl
    rw [e, List.getLast?_reverse] at this
    exact this
theorem strip_strip (l : List UInt8) : strip (strip l) = strip l := by
  obtain ⟨_, _, _, _, _, h1, h2⟩ := isStrip_strip l
  exact strip_of ⟨[], [], by simp, by simp, by simp, h1, h2⟩
theorem strip_wide (a b l : List UInt8) (ha : ∀ c ∈ a, blk c = true) (hb : ∀ c ∈ b, blk c = true) : strip (a ++ l ++ b) = strip l := by
  obtain ⟨a', b', e, ha', hb', h1, h2⟩ := isStrip_strip l
  refine strip_of ⟨a ++ a', b' ++ b, ?_, ?_, ?_, h1, h2⟩
  · generalize strip l = m at e
    rw [e]; simp
  · intro c hc; exact (List.mem_append.1 hc).elim (ha c) (ha' c)
  · intro c hc; exact (List.mem_append.1 hc).elim (hb' c) (hb c)
theorem strip_len (l : List UInt8) : (strip l).length ≤ l.length := by
  obtain ⟨a, b, e, _⟩ := isStrip_strip l
  have := congrArg List.length e
  simp only [List.length_append] at this
  omega

/-- the runs of bytes that are no blanks, the one that has begun ahead -/
def wds (cur : List UInt8) : List UInt8 → List (List UInt8)
  | [] => if cur = [] then [] else [cur]
  | c :: r => if blk c then (if cur = [] then wds [] r else cur :: wds [] r) else wds (cur ++ [c]) r
def join : List (List UInt8) → List UInt8
  | [] => []
  | x :: l => x ++ l.flatMap (fun y => 32 :: y)
def Word (x : List UInt8) : Prop := x ≠ [] ∧ ∀ c ∈ x, blk c = false
def collapse (l : List UInt8) : List UInt8 := join (wds [] l)

theorem wds_words : ∀ (l cur : List UInt8), (∀ c ∈ cur, blk c = false) → ∀ x ∈ wds cur l, Word x
  | [], cur, hc => by
    unfold wds
    split
    · simp
    · rename_i h; intro x hx; simp at hx; subst hx; exact ⟨h, hc⟩
  | c :: r, cur, hc => by
    unfold wds
    split
    · split
      · exact wds_words r [] (by simp)
      · rename_i h
        intro x hx
        rcases List.mem_cons.1 hx with rfl | hx
        · exact ⟨h, hc⟩
        · exact wds_words r [] (by simp) x hx
    · rename_i h
      exact wds_words r (cur ++ [c]) (fun d hd => (List.mem_append.1 hd).elim (hc d) (fun e => by simp at e; subst e; simpa using h))
theorem wds_blank (b : List UInt8) (hb : ∀ c ∈ b, blk c = true) : ∀ cur x, wds cur (x ++ b) = wds cur x := by
  have h0 : ∀ cur, wds cur b = if cur = [] then [] else [cur] := by
    induction b with
    | nil => intro cur; rfl
    | cons c b ih =>
      intro cur
      have hb' := ih (fun d hd => hb d (List.mem_cons_of_mem _ hd))
      rw [wds, if_pos (hb c (List.mem_cons_self ..)), hb' []]
      simp
  intro cur x
  induction x generalizing cur with
  | nil => rw [List.nil_append, h0, wds]
  | cons c x ih => simp only [List.cons_append, wds, ih]
theorem wds_lead (a : List UInt8) (ha : ∀ c ∈ a, blk c = true) (x : List UInt8) : wds [] (a ++ x) = wds [] x := by
  induction a with
  | nil => rfl
  | cons c a ih =>
    rw [List.cons_append, wds, if_pos (ha c (List.mem_cons_self ..)), if_pos rfl]
    exact ih (fun d hd => ha d (List.mem_cons_of_mem _ hd))
theorem wds_strip (l : List UInt8) : wds [] (strip l) = wds [] l := by
  obtain ⟨a, b, e, ha, hb, _, _⟩ := isStrip_strip l
  generalize strip l = m at e
  rw [e, wds_blank b hb, wds_lead a ha]
theorem wds_word (x : List UInt8) (hx : ∀ c ∈ x, blk c = false) : ∀ cur r, wds cur (x ++ r) = wds (cur ++ x) r := by
  induction x with
  | nil => intro cur r; simp
  | cons c x ih =>
    intro cur r
    rw [List.cons_append, wds, if_neg (by rw [hx c (List.mem_cons_self ..)]; simp), ih (fun d hd => hx d (List.mem_cons_of_mem _ hd))]
    simp
theorem wds_tail : ∀ ws : List (List UInt8), (∀ x ∈ ws, Word x) → ∀ cur, cur ≠ [] → wds cur (ws.flatMap (fun y => 32 :: y)) = cur :: ws
  | [], _, cur, hc => by rw [List.flatMap_nil, wds, if_neg hc]
  | x :: ws, h, cur, hc => by
    rw [List.flatMap_cons, List.cons_append, wds, if_pos (show blk 32 = true from rfl), if_neg hc, wds_word x (h x (List.mem_cons_self ..)).2, List.nil_append, wds_tail ws (fun y hy => h y (List.mem_cons_of_mem _ hy)) x (h x (List.mem_cons_self ..)).1]
theorem wds_join (ws : List (List UInt8)) (h : ∀ x ∈ ws, Word x) : wds [] (join ws) = ws := by
  cases ws with
  | nil => rfl
  | cons x ws =>
    rw [join, wds_word x (h x (List.mem_cons_self ..)).2, List.nil_append, wds_tail ws (fun y hy => h y (List.mem_cons_of_mem _ hy)) x (h x (List.mem_cons_self ..)).1]
theorem words_of (l : List UInt8) : ∀ x ∈ wds [] l, Word x := wds_words l [] (by simp)
theorem collapse_twice (l : List UInt8) : collapse (collapse l) = collapse l := by
  unfold collapse
  rw [wds_join _ (words_of l)]
theorem collapse_strip (l : List UInt8) : collapse (strip l) = collapse l := by
  unfold collapse
  rw [wds_strip]
theorem join_head (ws : List (List UInt8)) (h : ∀ x ∈ ws, Word x) : ∀ c, (join ws).head? = some c → blk c = false := by
  intro c hc
  cases ws with
  | nil => cases hc
  | cons x ws =>
    obtain ⟨h1, h2⟩ := h x (List.mem_cons_self ..)
    cases x with
    | nil => exact absurd rfl h1
    | cons d x =>
      simp [join] at hc
      subst hc
      exact h2 _ (List.mem_cons_self ..)
theorem tail_last : ∀ (ws : List (List UInt8)), (∀ x ∈ ws, Word x) → ∀ x, Word x → ∀ c, (x ++ ws.flatMap (fun y => 32 :: y)).getLast? = some c → blk c = false
  | [], _, x, hx, c, hc => by
    rw [List.flatMap_nil, List.append_nil] at hc
    exact hx.2 c (List.mem_of_getLast? hc)
  | y :: ws, h, x, _, c, hc => by
    rw [List.flatMap_cons, List.cons_append] at hc
    have h1 := h y (List.mem_cons_self ..)
    have hne : y ++ ws.flatMap (fun y => 32 :: y) ≠ [] := by
      intro e
      exact h1.1 (List.append_eq_nil_iff.1 e).1
    rw [last_app _ _ (by simp), show (32 :: (y ++ ws.flatMap (fun y => 32 :: y))) = [32] ++ (y ++ ws.flatMap (fun y => 32 :: y)) from rfl, last_app _ _ hne] at hc
    exact tail_last ws (fun z hz => h z (List.mem_cons_of_mem _ hz)) y h1 c hc
theorem strip_collapse (l : List UInt8) : strip (collapse l) = collapse l := by
  unfold collapse
  have hw := words_of l
  refine strip_of ⟨[], [], by simp, by simp, by simp, join_head _ hw, ?_⟩
  intro c hc
  cases hws : wds [] l with
  | nil => rw [hws] at hc; cases hc
  | cons x ws =>
    rw [hws] at hc hw
    exact tail_last ws (fun y hy => hw y (List.mem_cons_of_mem _ hy)) x (hw x (List.mem_cons_self ..)) c hc
end Go.Proofs.YtiflaniobnjlpaaDoor.PT
