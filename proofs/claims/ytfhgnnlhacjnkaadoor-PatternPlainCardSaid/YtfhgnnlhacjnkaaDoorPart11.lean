import Derived.Test.YtfhgnnlhacjnkaaDoorPart7
import Derived.Test.YtfhgnnlhacjnkaaDoorPart10
import Derived.Test.YtfhgnnlhacjnkaaDoorPart3
import Derived.Test.YtfhgnnlhacjnkaaDoorPart2
import Derived.Test.YtfhgnnlhacjnkaaDoorPart5
import Derived.Test.YtfhgnnlhacjnkaaDoorPart4
import Derived.Deep.RegionHeld3
/-
  A pattern read by the document: ref09.atom, row, rows: the walks, by depth.
-/
namespace Go.Proofs.YtfhgnnlhacjnkaaDoor
set_option linter.unusedVariables false
set_option linter.unusedSimpArgs false
open Go.RowKit PT

def AtOk (l : List Nat) (v : Value) (kk : Nat) : Prop := ∀ (dp : Nat), kk + dp = 8 → ∀ (j : Nat), j < l.length → ∀ (w : World), Sg .i64 l v w →
  Calls Tryd.prog 32 #[v, .int .i64 j, .int .i64 dp] w fun e w' => e = .returned (.int .i64 (endV l.length (atR kk (l.drop j)))) ∧ Below w.heap.size w w'
def RowOk (l : List Nat) (v : Value) (kk : Nat) : Prop := ∀ (dp : Nat), kk + dp = 8 → ∀ (j : Nat), j ≤ l.length → ∀ (w : World), Sg .i64 l v w →
  Calls Tryd.prog 23 #[v, .int .i64 j, .int .i64 dp] w fun e w' => e = .returned (.int .i64 (endV l.length (rwR kk (l.drop j)))) ∧ Below w.heap.size w w'
def RowsOk (l : List Nat) (v : Value) (kk : Nat) : Prop := ∀ (dp : Nat), kk + dp = 8 → ∀ (j : Nat), j ≤ l.length → ∀ (w : World), Sg .i64 l v w →
  Calls Tryd.prog 17 #[v, .int .i64 j, .int .i64 dp] w fun e w' => e = .returned (.int .i64 (endV l.length (rsR kk (l.drop j)))) ∧ Below w.heap.size w w'
theorem in_4 (c : Nat) : inN c (ByteArray.mk #[100, 68, 119, 87, 115, 83, 92, 94, 36, 46, 42, 43, 63, 40, 41, 91, 93, 123, 125, 124, 47, 45]).data.toList = decide (c ∈ [100, 68, 119, 87, 115, 83, 92, 94, 36, 46, 42, 43, 63, 40, 41, 91, 93, 123, 125, 124, 47, 45]) := inN_of rfl
theorem in_5 (c : Nat) : inN c (ByteArray.mk #[94, 36, 42, 43, 63, 41, 93, 123, 125, 124]).data.toList = decide (c ∈ [94, 36, 42, 43, 63, 41, 93, 123, 125, 124]) := inN_of rfl
set_option maxHeartbeats 2000000 in
set_option maxRecDepth 100000 in
theorem atom_of (l : List Nat) (v : Value) (hl : l.length ≤ 1000000) (kk : Nat) (hrec : ∀ m, kk = m + 1 → RowsOk l v m) : AtOk l v kk := by
  intro dp hdp j hj w hS
  have hSS := Lib.hid hS
  obtain ⟨b, o, cap, rfl, hb, hc⟩ := hS.at (by omega)
  replace hc := Lib.hid hc
  have hj1 : (j : Int) < (l.length : Int) := by omega
  have cj := hc.out j hj
  have hd := drop_at hj
  have hnl := Lib.hid (List.length_drop (i := j + 1) (l := l))
  obtain ⟨c, hcc⟩ : ∃ c, l[j] = c := ⟨_, rfl⟩
  rw [hcc] at cj hd
  clear hcc
  go_enter Tryd.func32, Tryd.ntmps32
  by_cases c91 : c = 91
  · have hR := Lib.hid (show endV l.length (atR kk (l.drop j)) = endV l.length (clR (l.drop (j + 1))) by rw [hd, c91, atR_cls])
    have q91 : ((c : Int) == 91) = true := natEq_yes c91
    clear hd c91
    go_wp2_with fail
    refine (class_any l _ hl j hj _ hSS.out).mono ?_
    rintro e w1 ⟨rfl, hb1⟩
    go_wp2_with fail
    go_ret
    exact ⟨ret_int hR.out.symm, hb1⟩
  have q91 : ((c : Int) == 91) = false := natEq_no c91
  by_cases c40 : c = 40
  · have q40 : ((c : Int) == 40) = true := natEq_yes c40
    subst c40
    clear c91
    cases kk with
    | zero =>
      have hR := Lib.hid (show endV l.length (atR 0 (l.drop j)) = -1 by rw [hd, atR_grp0]; rfl)
      have q8 : (8 : Int) ≤ (dp : Int) := by omega
      clear hd
      go_wp2_with fail
      go_ret
      exact ⟨ret_int hR.out.symm, Below.refl _ _⟩
    | succ m =>
      have hA := atR_grp m (l.drop (j + 1))
      rw [← hd] at hA
      replace hA := Lib.hid hA
      have q8 : decide ((8 : Int) ≤ (dp : Int)) = false := decide_eq_false (by omega)
      clear hd
      go_wp2_with fail
      refine (hrec m rfl (dp + 1) (by omega) (j + 1) (by omega) _ hSS.out).mono ?_
      rintro e w1 ⟨rfl, hb1⟩
      cases hrs : rsR m (l.drop (j + 1)) with
      | none =>
        have hR := Lib.hid (show endV l.length (atR (m + 1) (l.drop j)) = -1 by rw [hA.out, hrs]; rfl)
        rw [show endV l.length none = -1 from rfl]
        clear hrs
        go_wp2_with fail
        go_ret
        exact ⟨ret_int hR.out.symm, hb1⟩
      | some r =>
        obtain ⟨n, hn1, hn2, hn3⟩ := drop_suf (rsR_suf hrs) (by omega)
        rw [endV_at hn2]
        have n0 : decide ((n : Int) < 0) = false := decide_eq_false (by omega)
        have n0' : (0 : Int) ≤ (n : Int) := by omega
        by_cases hlt : n < l.length
        case neg =>
          have n1 : (l.length : Int) ≤ (n : Int) := by omega
          have hR := Lib.hid (show endV l.length (atR (m + 1) (l.drop j)) = -1 by rw [hA.out, hrs, ← hn3, List.drop_eq_nil_of_le (by omega)]; rfl)
          clear hrs hn3
          go_wp2_with fail
          go_ret
          exact ⟨ret_int hR.out.symm, hb1⟩
        have n1 : decide ((l.length : Int) ≤ (n : Int)) = false := decide_eq_false (by omega)
        have n2 : (n : Int) < (l.length : Int) := by omega
        have cn := cellK hb1 hb (hc.out n hlt)
        have hdn := drop_at hlt
        rw [hn3] at hdn
        by_cases h41 : l[n] = 41
        · have q41 : ((l[n] : Int) != 41) = false := natNe_yes h41
          have hR := Lib.hid (show endV l.length (atR (m + 1) (l.drop j)) = (n : Int) + 1 by
            rw [hA.out, hrs, hdn]
            simp only
            rw [if_pos h41, endV_at (n := n + 1) (by rw [List.length_drop]; omega)]
            omega)
          clear hrs hn3 hdn h41
          generalize l[n] = x at *
          go_wp2_with fail
          go_ret
          exact ⟨ret_int hR.out.symm, hb1⟩
        · have q41 : ((l[n] : Int) != 41) = true := natNe_no h41
          have hR := Lib.hid (show endV l.length (atR (m + 1) (l.drop j)) = -1 by
            rw [hA.out, hrs, hdn]
            simp only
            rw [if_neg h41]
            rfl)
          clear hrs hn3 hdn h41
          generalize l[n] = x at *
          go_wp2_with fail
          go_ret
          exact ⟨ret_int hR.out.symm, hb1⟩
  have q40 : ((c : Int) == 40) = false := natEq_no c40
  by_cases c92 : c = 92
  · have q92 : ((c : Int) == 92) = true := natEq_yes c92
    have hA := atR_esc kk (l.drop (j + 1))
    rw [show 92 :: l.drop (j + 1) = l.drop j by rw [hd, c92]] at hA
    replace hA := Lib.hid hA
    clear hd c92 c91 c40
    by_cases hlt : j + 1 < l.length
    case neg =>
      have n1 : (l.length : Int) ≤ (j : Int) + 1 := by omega
      have hR := Lib.hid (show endV l.length (atR kk (l.drop j)) = -1 by rw [hA.out, List.drop_eq_nil_of_le (by omega)]; rfl)
      go_wp2_with fail
      go_ret
      exact ⟨ret_int hR.out.symm, Below.refl _ _⟩
    have n1 : decide ((l.length : Int) ≤ (j : Int) + 1) = false := decide_eq_false (by omega)
    have n2 : (j : Int) + 1 < (l.length : Int) := by omega
    have cn := hc.out (j + 1) hlt
    have hdn := drop_at hlt
    obtain ⟨x, hx⟩ : ∃ c, l[j + 1] = c := ⟨_, rfl⟩
    rw [hx] at cn hdn
    replace hdn := Lib.hid hdn
    clear hx
    go_wp2_with fail
    refine (in9_any x _ (by decide) _).mono ?_
    rintro e w' ⟨rfl, rfl⟩
    rw [in_4]
    by_cases h4 : x ∈ [100, 68, 119, 87, 115, 83, 92, 94, 36, 46, 42, 43, 63, 40, 41, 91, 93, 123, 125, 124, 47, 45]
    · have hR := Lib.hid (show endV l.length (atR kk (l.drop j)) = (j : Int) + 2 by
        rw [hA.out, hdn.out]
        simp only
        rw [if_pos h4, endV_at (n := j + 2) (by rw [List.length_drop]; omega)]
        omega)
      rw [decide_eq_true h4]
      clear h4
      go_wp2_with fail
      go_ret
      exact ⟨ret_int hR.out.symm, Below.refl _ _⟩
    · have hR := Lib.hid (show endV l.length (atR kk (l.drop j)) = -1 by
        rw [hA.out, hdn.out]
        simp only
        rw [if_neg h4]
        rfl)
      rw [decide_eq_false h4]
      clear h4
      go_wp2_with fail
      go_ret
      exact ⟨ret_int hR.out.symm, Below.refl _ _⟩
  have q92 : ((c : Int) == 92) = false := natEq_no c92
  have hA := atR_oth (k := kk) (l.drop (j + 1)) c91 c40 c92
  rw [← hd] at hA
  replace hA := Lib.hid hA
  clear hd c91 c40 c92
  by_cases c46 : c = 46
  · have q46 : ((c : Int) != 46) = false := natNe_yes c46
    have hR := Lib.hid (show endV l.length (atR kk (l.drop j)) = (j : Int) + 1 by
      rw [hA.out, c46, if_neg (by decide), endV_at (n := j + 1) (by rw [hnl.out]; omega)]
      omega)
    clear c46
    go_wp2_with fail
    go_ret
    exact ⟨ret_int hR.out.symm, Below.refl _ _⟩
  have q46 : ((c : Int) != 46) = true := natNe_no c46
  clear c46
  go_wp2_with fail
  refine (in9_any c _ (by decide) _).mono ?_
  rintro e w' ⟨rfl, rfl⟩
  rw [in_5]
  by_cases h4 : c ∈ [94, 36, 42, 43, 63, 41, 93, 123, 125, 124]
  · have hR := Lib.hid (show endV l.length (atR kk (l.drop j)) = -1 by rw [hA.out, if_pos h4]; rfl)
    rw [decide_eq_true h4]
    clear h4
    go_wp2_with fail
    go_ret
    exact ⟨ret_int hR.out.symm, Below.refl _ _⟩
  · have hR := Lib.hid (show endV l.length (atR kk (l.drop j)) = (j : Int) + 1 by
      rw [hA.out, if_neg h4, endV_at (n := j + 1) (by rw [hnl.out]; omega)]
      omega)
    rw [decide_eq_false h4]
    clear h4
    go_wp2_with fail
    go_ret
    exact ⟨ret_int hR.out.symm, Below.refl _ _⟩
end Go.Proofs.YtfhgnnlhacjnkaaDoor

/-
  A pattern read by the document: ref09.row, rows: the walks, by depth.
-/
namespace Go.Proofs.YtfhgnnlhacjnkaaDoor
set_option linter.unusedVariables false
set_option linter.unusedSimpArgs false
open Go.RowKit PT

theorem oV_end {n : Nat} {g : Bool} {l : List Nat} : (oV n g l).1 = endV n (ofR g l) := by
  unfold oV ofR
  cases oftenP g l with
  | none => rfl
  | some q => rfl
set_option maxHeartbeats 2000000 in
set_option maxRecDepth 100000 in
theorem row_of (l : List Nat) (v : Value) (hl : l.length ≤ 1000000) (kk : Nat) (hat : AtOk l v kk) : RowOk l v kk := by
  intro dp hdp j0 hj0 w hS
  have hSS := Lib.hid hS
  replace hat := Lib.hid hat
  obtain ⟨a, cap, rfl⟩ := hS.len
  go_enter Tryd.func23, Tryd.ntmps23
  go_wp2_with fail
  go_loopw [1] (fun i wr => ∃ j : Nat, j ≤ l.length ∧ i = .int .i64 j ∧ Below w.heap.size w wr ∧ Hid (rwR kk (l.drop j0) = rwR kk (l.drop j))) (fun i _ => l.length - (intOf i).toNat)
  case atStart => exact ⟨j0, hj0, rfl, Below.refl _ _, Lib.hid rfl⟩
  case round =>
    obtain ⟨j, hj, rfl, hbel, hI⟩ := hrel
    have hsz := hbel.size
    have hSr := hSS.out.kept hbel
    by_cases hlt : j < l.length
    case neg =>
      have t1 : decide ((j : Int) < (l.length : Int)) = false := decide_eq_false (by omega)
      have hR := Lib.hid (show endV l.length (rwR kk (l.drop j0)) = (j : Int) by
        rw [hI.out, List.drop_eq_nil_of_le (by omega), rwR_nil]
        exact endV_at (by rw [List.length_nil]; omega))
      go_wp2_with fail
      go_ret
      exact ⟨ret_int hR.out.symm, hbel⟩
    have t1 : (j : Int) < (l.length : Int) := by omega
    obtain ⟨b, o, cap', hv, hb, hc⟩ := hSr.at (by omega)
    cases hv
    have cj := hc j hlt
    clear hc
    have hd := drop_at hlt
    obtain ⟨g, hg⟩ : ∃ g, decide (l[j] = 40) = g := ⟨_, rfl⟩
    by_cases h124 : l[j] = 124
    · have q1 : ((l[j] : Int) != 124) = false := natNe_yes h124
      have hR := Lib.hid (show endV l.length (rwR kk (l.drop j0)) = (j : Int) by
        rw [hI.out, hd, rwR_end (.inl h124), ← hd]
        exact endV_at (by rw [List.length_drop]; omega))
      clear hd h124 hg
      generalize l[j] = c at *
      go_wp2_with fail
      go_ret
      exact ⟨ret_int hR.out.symm, hbel⟩
    have q1 : ((l[j] : Int) != 124) = true := natNe_no h124
    by_cases h41 : l[j] = 41
    · have q2 : ((l[j] : Int) != 41) = false := natNe_yes h41
      have hR := Lib.hid (show endV l.length (rwR kk (l.drop j0)) = (j : Int) by
        rw [hI.out, hd, rwR_end (.inr h41), ← hd]
        exact endV_at (by rw [List.length_drop]; omega))
      clear hd h41 h124 hg
      generalize l[j] = c at *
      go_wp2_with fail
      go_ret
      exact ⟨ret_int hR.out.symm, hbel⟩
    have q2 : ((l[j] : Int) != 41) = true := natNe_no h41
    have hI2 := rwR_cons (k := kk) (l := l.drop (j + 1)) (show ¬ (l[j] = 124 ∨ l[j] = 41) from fun h => h.elim h124 h41)
    rw [← hd, hg, ← hI.out] at hI2
    have hgg := Lib.hid hg
    clear hd h41 h124 hg
    generalize l[j] = c at cj q1 q2
    go_wp2_with fail
    refine (hat.out dp hdp j hlt _ hSr).mono ?_
    rintro e w1 ⟨rfl, hb1⟩
    have hb1' := hbel.trans (hb1.mono hsz)
    cases hz : atR kk (l.drop j) with
    | none =>
      rw [hz] at hI2
      have hR := Lib.hid (show endV l.length (rwR kk (l.drop j0)) = -1 by rw [hI2]; rfl)
      rw [show endV l.length none = -1 from rfl]
      clear hI2 hz
      go_wp2_with fail
      go_ret
      exact ⟨ret_int hR.out.symm, hb1'⟩
    | some r1 =>
      rw [hz] at hI2
      obtain ⟨z1, z2⟩ := atR_suf hz
      obtain ⟨n, hn1, hn2, hn3⟩ := drop_suf z1 hj
      rw [List.length_drop] at z2
      rw [endV_at hn2]
      have n0 : decide ((n : Int) < 0) = false := decide_eq_false (by omega)
      have hSr1 := hSr.kept hb1
      simp only at hI2
      rw [← hn3] at hI2
      replace hI2 := Lib.hid hI2
      clear hz hn3 z1
      go_wp2_with fail
      refine (often_any l _ hl j n hlt (by omega) g hgg.out _ hSr1).mono ?_
      rintro e w2 ⟨rfl, hb2⟩
      have hb2' := hb1'.trans (hb2.mono (by have := hb1.size; omega))
      rw [oV_end]
      obtain ⟨x1, hx1⟩ : ∃ x, (oV l.length g (l.drop n)).2.1 = x := ⟨_, rfl⟩
      obtain ⟨x2, hx2⟩ : ∃ x, (oV l.length g (l.drop n)).2.2 = x := ⟨_, rfl⟩
      rw [hx1, hx2]
      clear hx1 hx2
      cases hy : ofR g (l.drop n) with
      | none =>
        have hR := Lib.hid (show endV l.length (rwR kk (l.drop j0)) = -1 by rw [hI2.out, hy]; rfl)
        rw [show endV l.length none = -1 from rfl]
        clear hy
        have ha := Go.heap_alloc_new w2 (.cells #[.int .i64 (-1), .int .i64 x1, .int .i64 x2] 68)
        obtain ⟨y0, y1, y2, f0, f1, f2⟩ := three_of ha
        have hba := hb2'.alloc (by have := hb2'.size; omega) (.cells #[.int .i64 (-1), .int .i64 x1, .int .i64 x2] 68)
        go_upto_region 6 with fail
        generalize World.alloc _ _ = W3 at *
        go_wp2_with fail
        go_ret
        exact ⟨ret_int hR.out.symm, hba⟩
      | some r2 =>
        obtain ⟨m, hm1, hm2, hm3⟩ := drop_suf (ofR_suf hy) (by omega)
        have hN := Lib.hid (show rwR kk (l.drop j0) = rwR kk (l.drop m) by rw [hI2.out, hy, ← hm3])
        rw [endV_at hm2]
        clear hy hm3
        have m0 : decide ((m : Int) < 0) = false := decide_eq_false (by omega)
        have ha := Go.heap_alloc_new w2 (.cells #[.int .i64 (m : Int), .int .i64 x1, .int .i64 x2] 68)
        obtain ⟨y0, y1, y2, f0, f1, f2⟩ := three_of ha
        have hba := hb2'.alloc (by have := hb2'.size; omega) (.cells #[.int .i64 (m : Int), .int .i64 x1, .int .i64 x2] 68)
        go_upto_region 6 with fail
        generalize World.alloc _ _ = W3 at *
        go_wp2_with fail
        go_roundw
        case rel => exact ⟨m, by omega, rfl, hba, hN⟩
        case measure => simp [intOf]; omega
set_option maxHeartbeats 2000000 in
set_option maxRecDepth 100000 in
theorem rows_of (l : List Nat) (v : Value) (hl : l.length ≤ 1000000) (kk : Nat) (hrow : RowOk l v kk) : RowsOk l v kk := by
  intro dp hdp j0 hj0 w hS
  have hSS := Lib.hid hS
  replace hrow := Lib.hid hrow
  have hE := rsR_eq kk (l.drop j0)
  obtain ⟨X, hX⟩ : ∃ X, rsR kk (l.drop j0) = X := ⟨_, rfl⟩
  rw [hX] at hE ⊢
  clear hX
  replace hE := Lib.hid hE
  obtain ⟨a, cap, rfl⟩ := hS.len
  go_enter Tryd.func17, Tryd.ntmps17
  go_wp2_with fail
  refine (hrow.out dp hdp j0 hj0 _ hSS.out).mono ?_
  rintro e w1 ⟨rfl, hb1⟩
  go_wp2_with fail
  go_loopw [7] (fun i wr => ∃ o : Option (List Nat), i = .int .i64 (endV l.length o) ∧ Below w.heap.size w wr ∧ (∀ r, o = some r → r <:+ l) ∧ Hid (X = (match o with
      | none => none
      | some r => match r with
        | [] => some []
        | c :: r2 => if c = 124 then rsR kk r2 else some (c :: r2)))) (fun i _ => if intOf i < 0 then 0 else l.length + 1 - (intOf i).toNat)
  case atStart => exact ⟨rwR kk (l.drop j0), rfl, hb1, fun r hr => (rwR_suf hr).trans (List.drop_suffix _ _), Lib.hid (by rw [hE.out]; rfl)⟩
  case round =>
    obtain ⟨o, rfl, hbel, hsuf, hI⟩ := hrel
    have hsz := hbel.size
    have hSr := hSS.out.kept hbel
    cases o with
    | none =>
      have hR := Lib.hid (show endV l.length X = -1 by rw [hI.out]; rfl)
      rw [show endV l.length none = -1 from rfl]
      go_wp2_with fail
      go_ret
      exact ⟨ret_int hR.out.symm, hbel⟩
    | some r =>
      obtain ⟨n, hn0, hn1, hn2⟩ := drop_suf (l := l) (k := 0) (by rw [List.drop_zero]; exact hsuf r rfl) (Nat.zero_le _)
      rw [endV_at hn1]
      have n0 : (0 : Int) ≤ (n : Int) := by omega
      by_cases hlt : n < l.length
      case neg =>
        have n1 : decide ((n : Int) < (l.length : Int)) = false := decide_eq_false (by omega)
        have hR := Lib.hid (show endV l.length X = (n : Int) by
          rw [hI.out, ← hn2, List.drop_eq_nil_of_le (by omega)]
          exact endV_at (by rw [List.length_nil]; omega))
        clear hn2 hsuf
        go_wp2_with fail
        go_ret
        exact ⟨ret_int hR.out.symm, hbel⟩
      have n1 : (n : Int) < (l.length : Int) := by omega
      obtain ⟨b, o, cap', hv, hb, hc⟩ := hSr.at (by omega)
      cases hv
      have cj := hc n hlt
      clear hc
      have hd := drop_at hlt
      rw [hn2] at hd
      have hJ := hI.out
      rw [hd] at hJ
      simp only at hJ
      by_cases h124 : l[n] = 124
      case neg =>
        have q1 : ((l[n] : Int) == 124) = false := natEq_no h124
        have hR := Lib.hid (show endV l.length X = (n : Int) by
          rw [hJ, if_neg h124, ← hd]
          exact endV_at hn1)
        clear hd h124 hJ hI hn2 hsuf
        generalize l[n] = c at *
        go_wp2_with fail
        go_ret
        exact ⟨ret_int hR.out.symm, hbel⟩
      have q1 : ((l[n] : Int) == 124) = true := natEq_yes h124
      rw [if_pos h124, rsR_eq] at hJ
      replace hJ := Lib.hid hJ
      clear hd h124 hI hn2 hsuf
      generalize l[n] = c at *
      go_wp2_with fail
      refine (hrow.out dp hdp (n + 1) (by omega) _ hSr).mono ?_
      rintro e w2 ⟨rfl, hb2⟩
      have hb2' := hbel.trans (hb2.mono hsz)
      have hmeas : (if endV l.length (rwR kk (l.drop (n + 1))) < 0 then 0 else l.length + 1 - (endV l.length (rwR kk (l.drop (n + 1)))).toNat) < l.length + 1 - n := by
        cases hz : rwR kk (l.drop (n + 1)) with
        | none => show (if (-1 : Int) < 0 then 0 else _) < _; rw [if_pos (by decide)]; omega
        | some r1 =>
          have := (rwR_suf hz).length_le
          rw [List.length_drop] at this
          obtain ⟨m, hm1, hm2, hm3⟩ := drop_suf (rwR_suf hz) (by omega)
          rw [endV_at hm2, if_neg (by omega)]
          omega
      replace hmeas := Lib.hid hmeas
      go_wp2_with fail
      go_roundw
      case rel => exact ⟨rwR kk (l.drop (n + 1)), rfl, hb2', fun r hr => (rwR_suf hr).trans (List.drop_suffix _ _), Lib.hid (hJ.out.trans rfl)⟩
      case measure =>
        show (if endV l.length (rwR kk (l.drop (n + 1))) < 0 then 0 else l.length + 1 - (endV l.length (rwR kk (l.drop (n + 1)))).toNat) < (if (n : Int) < 0 then 0 else l.length + 1 - (n : Int).toNat)
        rw [if_neg (show ¬ (n : Int) < 0 by omega)]
        have := hmeas.out
        simpa using this
/-- at each depth -/
theorem ref_ok (l : List Nat) (v : Value) (hl : l.length ≤ 1000000) : ∀ kk, AtOk l v kk ∧ RowOk l v kk ∧ RowsOk l v kk
  | 0 => by
    have h := atom_of l v hl 0 (fun m h => by omega)
    have h2 := row_of l v hl 0 h
    exact ⟨h, h2, rows_of l v hl 0 h2⟩
  | kk + 1 => by
    have h := atom_of l v hl (kk + 1) (fun m h => by
      have e : m = kk := by omega
      rw [e]
      exact (ref_ok l v hl kk).2.2)
    have h2 := row_of l v hl (kk + 1) h
    exact ⟨h, h2, rows_of l v hl (kk + 1) h2⟩
end Go.Proofs.YtfhgnnlhacjnkaaDoor

/-
  What a pattern fits, by the document: ref09.once, oneRow, all: the walks, by depth.
-/
namespace Go.Proofs.YtfhgnnlhacjnkaaDoor
set_option linter.unusedVariables false
set_option linter.unusedSimpArgs false
open Go.RowKit PT

/-- what stays the same in all calls: the pattern, the text -/
structure Env (l : List Nat) (v : Value) (t : List Nat) (vt : Value) (w : World) : Prop where
  p : Sg .i64 l v w
  t : Sg .i64 t vt w
theorem Env.kept {l : List Nat} {v : Value} {t : List Nat} {vt : Value} {w w' : World} (h : Env l v t vt w) (hb : Below w.heap.size w w') : Env l v t vt w' := ⟨h.p.kept hb, h.t.kept hb⟩
def OnceOk (l : List Nat) (v : Value) (t : List Nat) (vt : Value) (kk : Nat) : Prop := ∀ (k m : Nat) (d : Den) (r : List Nat), k ≤ l.length → atomK kk (l.drop k) = some (d, r) → m + r.length = l.length → ∀ (a : List Bool) (va : Value), a.length = t.length + 1 → ∀ (w : World), Env l v t vt w → Bl a va w →
  Calls Tryd.prog 35 #[v, .int .i64 k, .int .i64 m, vt, va] w fun e w' => ∃ vo, e = .returned vo ∧ Bl (d t a) vo w' ∧ Below w.heap.size w w'
def OneRowOk (l : List Nat) (v : Value) (t : List Nat) (vt : Value) (kk : Nat) : Prop := ∀ (k : Nat) (ps : List Pce) (r : List Nat), k ≤ l.length → rowF (atomK kk) (l.drop k) = some (ps, r) → ∀ (a : List Bool) (va : Value), a.length = t.length + 1 → ∀ (w : World), Env l v t vt w → Bl a va w →
  Calls Tryd.prog 26 #[v, .int .i64 k, vt, va] w fun e w' => ∃ vo, e = .returned vo ∧ Bl (rowL ps t a) vo w' ∧ Below w.heap.size w w'
def AllOk (l : List Nat) (v : Value) (t : List Nat) (vt : Value) (kk : Nat) : Prop := ∀ (k : Nat) (rs : List (List Pce)) (r : List Nat), k ≤ l.length → rowsF (atomK kk) (l.drop k) = some (rs, r) → ∀ (a : List Bool) (va : Value), a.length = t.length + 1 → ∀ (w : World), Env l v t vt w → Bl a va w →
  Calls Tryd.prog 19 #[v, .int .i64 k, vt, va] w fun e w' => ∃ vo, e = .returned vo ∧ Bl (grpL rs t a) vo w' ∧ Below w.heap.size w w'
theorem atomK_at {kk k : Nat} {l : List Nat} {d : Den} {r : List Nat} (h : atomK kk (l.drop k) = some (d, r)) : ∃ hk : k < l.length, (l[k] = 40 ∧ ∃ mm rs r1, kk = mm + 1 ∧ rowsF (atomK mm) (l.drop (k + 1)) = some (rs, r1) ∧ d = grpL rs) ∨ (l[k] ≠ 40 ∧ ∃ c, klassP (l.drop k) = some (c, r) ∧ d = clsL c.fits) := by
  have hk : k < l.length := by
    rcases Nat.lt_or_ge k l.length with h2 | h2
    · exact h2
    · rw [List.drop_eq_nil_of_le h2] at h
      cases kk <;> simp [atomK] at h
  refine ⟨hk, ?_⟩
  rw [drop_at hk] at h ⊢
  by_cases h40 : l[k] = 40
  · left
    refine ⟨h40, ?_⟩
    rw [h40] at h
    cases kk with
    | zero =>
      unfold atomK at h
      rw [if_neg (by decide), if_pos rfl] at h
      cases h
    | succ mm =>
      rw [atomK_grp] at h
      cases hr : rowsF (atomK mm) (l.drop (k + 1)) with
      | none => rw [hr] at h; cases h
      | some q =>
        obtain ⟨rs, r1⟩ := q
        rw [hr] at h
        simp only at h
        cases r1 with
        | nil => cases h
        | cons x r3 =>
          simp only at h
          split at h
          · cases h; exact ⟨mm, rs, _, rfl, hr, rfl⟩
          · cases h
  · right
    refine ⟨h40, ?_⟩
    rw [atomK_not h40] at h
    obtain ⟨q, h1, h2⟩ := Option.map_eq_some_iff.1 h
    cases h2
    exact ⟨q.1, h1, rfl⟩
set_option maxHeartbeats 1000000 in
set_option maxRecDepth 100000 in
theorem once_of (l : List Nat) (v : Value) (t : List Nat) (vt : Value) (hl : l.length ≤ 1000000) (ht : t.length ≤ 90000) (kk : Nat) (hrec : ∀ m, kk = m + 1 → AllOk l v t vt m) : OnceOk l v t vt kk := by
  intro k m d r hk0 hat hmr a va hla w hE hA
  obtain ⟨hk, hc⟩ := atomK_at hat
  rcases hc with ⟨h40, mm, rs, r1, rfl, hrs, rfl⟩ | ⟨h40, c, hkl, rfl⟩
  · obtain ⟨b, o, cap, rfl, hb, hcl⟩ := hE.p.at (by omega)
    have ck := hcl k hk
    rw [h40] at ck
    have q0 : (k : Int) < (l.length : Int) := by omega
    have hEE := Lib.hid hE
    have hAA := Lib.hid hA
    have hall := Lib.hid (hrec mm rfl (k + 1) rs r1 (by omega) hrs a va hla w hE hA)
    clear hcl hrs hat h40 hrec
    go_enter Tryd.func35, Tryd.ntmps35
    go_wp2_with fail
    refine hall.out.mono ?_
    rintro e w1 ⟨vo, rfl, h1, h2⟩
    go_wp2_with fail
    go_ret
    exact ⟨vo, rfl, h1, h2⟩
  · exact once_cls l v hl k m c r hkl hmr t vt a va hla (by omega) w hE.p hE.t hA
theorem often_le {g : Bool} {l : List Nat} {lo h : Nat} {r : List Nat} (hh : oftenP g l = some (lo, some h, r)) : lo ≤ h := by
  cases l with
  | nil => cases hh; exact Nat.le_refl _
  | cons c l =>
    rw [oP_cons] at hh
    split at hh
    · cases hh
    · split at hh
      · cases hh
      · split at hh
        · cases hh; omega
        · split at hh
          · split at hh
            · cases hh
            · rw [timesP_C] at hh
              unfold timC at hh
              split at hh
              · cases hh
              · split at hh
                · cases hh
                · split at hh
                  · cases hh; exact Nat.le_refl _
                  · split at hh
                    · split at hh
                      · cases hh
                      · split at hh
                        · split at hh
                          · cases hh
                          · split at hh
                            · cases hh
                            · cases hh; omega
                        · cases hh
                    · cases hh
          · cases hh; exact Nat.le_refl _
theorem often_small {g : Bool} {l : List Nat} {lo : Nat} {hi : Option Nat} {r : List Nat} (hh : oftenP g l = some (lo, hi, r)) : lo ≤ 99 ∧ ∀ h, hi = some h → h ≤ 99 := by
  cases l with
  | nil => cases hh; exact ⟨by omega, fun h e => by cases e; omega⟩
  | cons c l =>
    rw [oP_cons] at hh
    split at hh
    · cases hh; exact ⟨by omega, fun h e => by cases e⟩
    · split at hh
      · cases hh; exact ⟨by omega, fun h e => by cases e⟩
      · split at hh
        · cases hh; exact ⟨by omega, fun h e => by cases e; omega⟩
        · split at hh
          · split at hh
            · cases hh
            · rw [timesP_C] at hh
              unfold timC at hh
              have n1 := (numC_le l).2.2
              split at hh
              · cases hh
              · split at hh
                · cases hh
                · rename_i y r2 _
                  have n2 := (numC_le r2).2.2
                  split at hh
                  · cases hh; exact ⟨n1, fun h e => by cases e; exact n1⟩
                  · split at hh
                    · split at hh
                      · cases hh
                      · split at hh
                        · split at hh
                          · cases hh; exact ⟨n1, fun h e => by cases e⟩
                          · split at hh
                            · cases hh
                            · cases hh; exact ⟨n1, fun h e => by cases e; exact n2⟩
                        · cases hh
                    · cases hh
          · cases hh; exact ⟨by omega, fun h e => by cases e; omega⟩
/-- one piece and those behind it -/
theorem rowF_at {kk k : Nat} {l : List Nat} {ps : List Pce} {r : List Nat} (h : rowF (atomK kk) (l.drop k) = some (ps, r)) (hk : k ≤ l.length) (hkk : kk ≤ 8) :
    (ps = [] ∧ r = l.drop k ∧ (l.length ≤ k ∨ ∃ h : k < l.length, l[k] = 124 ∨ l[k] = 41)) ∨
    (∃ (hk : k < l.length) (d : Den) (r1 : List Nat) (lo : Nat) (hi : Option Nat) (m n : Nat) (ps2 : List Pce), l[k] ≠ 124 ∧ l[k] ≠ 41 ∧ atomK kk (l.drop k) = some (d, r1) ∧ atR 8 (l.drop k) = some r1 ∧ m + r1.length = l.length ∧ m ≤ l.length ∧ l.drop m = r1 ∧ oftenP (decide (l[k] = 40)) (l.drop m) = some (lo, hi, l.drop n) ∧ k < m ∧ m ≤ n ∧ n ≤ l.length ∧
      rowF (atomK kk) (l.drop n) = some (ps2, r) ∧ ps = ⟨d, lo, hi⟩ :: ps2) := by
  rcases Nat.lt_or_ge k l.length with hlt | hge
  · by_cases hend : l[k] = 124 ∨ l[k] = 41
    · left
      rw [drop_at hlt, rowF_end _ hend] at h
      cases h
      exact ⟨rfl, (drop_at hlt).symm, .inr ⟨hlt, hend⟩⟩
    · right
      have hh := h
      rw [drop_at hlt, rowF_cons (atomK_len kk) hend, ← drop_at hlt] at hh
      cases ha : atomK kk (l.drop k) with
      | none => rw [ha] at hh; cases hh
      | some q =>
        obtain ⟨d, r1⟩ := q
        rw [ha] at hh
        simp only at hh
        obtain ⟨m, m1, m2, m3⟩ := drop_suf (atomK_suf kk _ _ _ ha) hk
        have hlen := atomK_len kk _ _ _ ha
        rw [List.length_drop] at hlen
        cases ho : oftenP (decide (l[k] = 40)) r1 with
        | none => rw [ho] at hh; cases hh
        | some q =>
          obtain ⟨lo, hi, r2⟩ := q
          rw [ho] at hh
          simp only at hh
          have hs2 := oftenP_suf ho
          rw [← m3] at hs2
          obtain ⟨n, n1, n2, n3⟩ := drop_suf hs2 (by omega)
          cases hr : rowF (atomK kk) r2 with
          | none => rw [hr] at hh; cases hh
          | some q =>
            obtain ⟨ps2, r3⟩ := q
            rw [hr] at hh
            simp only [Option.some.injEq, Prod.mk.injEq] at hh
            obtain ⟨e1, e2⟩ := hh
            refine ⟨hlt, d, r1, lo, hi, m, n, ps2, fun e => hend (.inl e), fun e => hend (.inr e), rfl, ?_, m2, by omega, m3, by rw [m3, n3]; exact ho, by omega, n1, by omega, by rw [n3, hr, e2], e1.symm⟩
            unfold atR
            rw [atomK_mono hkk ha]
            rfl
  · left
    rw [List.drop_eq_nil_of_le hge] at h
    rw [rowF_nil] at h
    cases h
    exact ⟨rfl, (List.drop_eq_nil_of_le hge).symm, .inl hge⟩
end Go.Proofs.YtfhgnnlhacjnkaaDoor

/-
  What a row fits, by the document: ref09.oneRow: the walk.
-/
namespace Go.Proofs.YtfhgnnlhacjnkaaDoor
set_option linter.unusedVariables false
set_option linter.unusedSimpArgs false
open Go.RowKit PT

set_option maxHeartbeats 8000000 in
set_option maxRecDepth 100000 in
theorem oneRow_of (l : List Nat) (v : Value) (t : List Nat) (vt : Value) (hl : l.length ≤ 1000000) (ht : t.length ≤ 90000) (kk : Nat) (hkk : kk ≤ 8) (honce : OnceOk l v t vt kk) : OneRowOk l v t vt kk := by
  intro k0 ps r hk0 hrow a va hla w hE hA
  have hEE := Lib.hid hE
  replace honce := Lib.hid honce
  have hrow0 := Lib.hid hrow
  have hla0 := Lib.hid hla
  clear hrow hla
  obtain ⟨pa, pcap, rfl⟩ := hE.p.len
  have h8 := Lib.hid (show ∀ (j : Nat), j < l.length → ∀ (w : World), Sg .i64 l (.slice pa l.length pcap) w → Calls Tryd.prog 32 #[.slice pa l.length pcap, .int .i64 j, .int .i64 0] w fun e w' => e = .returned (.int .i64 (endV l.length (atR 8 (l.drop j)))) ∧ Below w.heap.size w w' from fun j hj w hS => (ref_ok l _ hl 8).1 0 rfl j hj w hS)
  go_enter Tryd.func26, Tryd.ntmps26
  go_wp2_with fail
  go_loopw [1, 3] (fun i vf wr => ∃ (j : Nat) (A : List Bool) (ps' : List Pce), j ≤ l.length ∧ i = .int .i64 j ∧ Hid (A.length = t.length + 1) ∧ Bl A vf wr ∧ Below w.heap.size w wr ∧ Hid (rowF (atomK kk) (l.drop j) = some (ps', r)) ∧ Hid (rowL ps t a = rowL ps' t A)) (fun i _ _ => l.length - (intOf i).toNat)
  case atStart => exact ⟨k0, a, ps, hk0, rfl, hla0, hA, Below.refl _ _, hrow0, Lib.hid rfl⟩
  case round =>
    obtain ⟨j, A, ps', hj, rfl, hAl, hBA, hbel, hrw, hres⟩ := hrel
    have hsz := hbel.size
    have hEr := hEE.out.kept hbel
    rcases rowF_at hrw.out hj hkk with ⟨rfl, hr, hend⟩ | ⟨hlt, d, r1, lo, hi, m, n, ps2, h124, h41, hat, har, hm1, hm2, hm3, hof, hjm, hmn, hn, hrw2, rfl⟩
    · have hfin := hBA
      rw [show A = rowL ps t a from hres.out.symm] at hfin
      replace hfin := Lib.hid hfin
      clear hr
      rcases hend with hge | ⟨hlt, he⟩
      · have q1 : decide ((j : Int) < (l.length : Int)) = false := decide_eq_false (by omega)
        go_wp2_with fail
        go_ret
        exact ⟨_, rfl, hfin.out, hbel⟩
      · have q1 : (j : Int) < (l.length : Int) := by omega
        obtain ⟨b, o, cap', hv, hb, hc⟩ := hEr.p.at (by omega)
        cases hv
        have cj := hc j hlt
        clear hc
        rcases he with he | he
        · have q2 : ((l[j] : Int) != 124) = false := natNe_yes he
          clear he
          generalize l[j] = c at *
          go_wp2_with fail
          go_ret
          exact ⟨_, rfl, hfin.out, hbel⟩
        · have q2 : ((l[j] : Int) != 124) = true := natNe_no (by rw [he]; decide)
          have q3 : ((l[j] : Int) != 41) = false := natNe_yes he
          clear he
          generalize l[j] = c at *
          go_wp2_with fail
          go_ret
          exact ⟨_, rfl, hfin.out, hbel⟩
    · have q1 : (j : Int) < (l.length : Int) := by omega
      obtain ⟨b, o, cap', hv, hb, hc⟩ := hEr.p.at (by omega)
      cases hv
      have cj := hc j hlt
      clear hc
      have q2 : ((l[j] : Int) != 124) = true := natNe_no h124
      have q3 : ((l[j] : Int) != 41) = true := natNe_no h41
      obtain ⟨g, hg⟩ : ∃ g, decide (l[j] = 40) = g := ⟨_, rfl⟩
      rw [hg] at hof
      have hgg := Lib.hid hg
      clear hg h124 h41
      generalize l[j] = c at cj q2 q3
      have hd := Lib.hid (show AddsD d from atomK_adds kk _ _ _ hat)
      have hsm := often_small hof
      have hlh := Lib.hid (fun h (e : hi = some h) => often_le (e ▸ hof))
      have hoE := Lib.hid (show oV l.length g (l.drop m) = ((n : Int), (lo : Int), hiV hi) by
        rw [oV_some hof]; refine Prod.ext ?_ rfl; show ((l.length - (l.drop n).length : Nat) : Int) = n; rw [List.length_drop]; omega)
      have haE := Lib.hid (show endV l.length (atR 8 (l.drop j)) = (m : Int) by rw [har]; exact endV_at hm1)
      have hat2 := Lib.hid hat
      have hrw3 := Lib.hid hrw2
      have hm1' := Lib.hid hm1
      have hlo := hsm.1
      have hhi := Lib.hid hsm.2
      clear hsm hof hat har hrw2 hm1 hm3
      obtain ⟨H, hH⟩ : ∃ H, hiV hi = H := ⟨_, rfl⟩
      rw [hH] at hoE
      have hHH := Lib.hid hH
      clear hH
      go_wp2_with fail
      refine (h8.out j hlt _ hEr.p).mono ?_
      rintro e w1 ⟨rfl, hb1⟩
      rw [haE.out]
      have hE1 := hEr.kept hb1
      go_wp2_with fail
      refine (often_any l _ hl j m hlt hm2 g hgg.out _ hE1.p).mono ?_
      rintro e w2 ⟨rfl, hb2⟩
      rw [hoE.out]
      have hE2 := hE1.kept hb2
      have hbl2 := (hbel.trans (hb1.mono hsz)).trans (hb2.mono (by have := hb1.size; omega))
      have hBA2 := (hBA.kept hb1).kept hb2
      have ha := Go.heap_alloc_new w2 (.cells #[.int .i64 (n : Int), .int .i64 (lo : Int), .int .i64 H] 68)
      obtain ⟨y0, y1, y2, f0, f1, f2⟩ := three_of ha
      have hba := (Below.refl w2.heap.size w2).alloc (Nat.le_refl _) (.cells #[.int .i64 (n : Int), .int .i64 (lo : Int), .int .i64 H] 68)
      have hs3 : w2.heap.size < (w2.alloc (.cells #[.int .i64 (n : Int), .int .i64 (lo : Int), .int .i64 H] 68)).heap.size := by simp
      go_upto_region 4 with fail
      generalize World.alloc _ _ = W3 at ha y0 y1 y2 f0 f1 f2 hba hs3 ⊢
      have hE3 := hE2.kept hba
      have hbl3 := hbl2.trans (hba.mono (by have := hbl2.size; omega))
      have hBA3 := hBA2.kept hba
      have hsz3 := hbl3.size
      generalize w2.heap.size = gb at hs3 ha y0 y1 y2 f0 f1 f2 ⊢
      have hEh := Lib.hid hE3
      have y0h := Lib.hid y0
      have y1h := Lib.hid y1
      have y2h := Lib.hid y2
      clear y0 y1 y2 f0 f1 f2 ha hba hE1 hE2 hBA2 hBA hbl2
      have hlenq := Lib.hid (fun q => ((hd.out t).iter q).len A hAl.out)
      have hlens := Lib.hid (fun q => sofarL_len (p := ⟨d, lo, hi⟩) (t := t) (a := A) hd.out hAl.out q)
      go_wp2_with fail
      go_loopw [3, 11] (fun vf i wr => ∃ (q : Nat), q ≤ lo ∧ i = .int .i64 q ∧ Bl (iterL (d t) q A) vf wr ∧ Below W3.heap.size W3 wr) (fun _ i _ => lo - (intOf i).toNat)
      case atStart => exact ⟨0, Nat.zero_le _, rfl, hBA3, Below.refl _ _⟩
      case round =>
        obtain ⟨q, hq, rfl, hBq, hbq⟩ := hrel
        have hszq := hbq.size
        have hEq := hEh.out.kept hbq
        have z0 := cellK hbq hs3 y0h.out
        have z1 := cellK hbq hs3 y1h.out
        have z2 := cellK hbq hs3 y2h.out
        by_cases hql : q < lo
        · have p1 : (q : Int) < (lo : Int) := by omega
          go_wp2_with fail
          refine (honce.out j m d r1 hj hat2.out hm1'.out _ _ (hlenq.out q) _ hEq hBq).mono ?_
          rintro e w4 ⟨vo, rfl, hB4, hb4⟩
          go_wp2_with fail
          exact ⟨⟨q + 1, by omega, by go_num, by rw [iterL_succ]; exact hB4, hbq.trans (hb4.mono hszq)⟩, by simp [intOf]; omega⟩
        · have p1 : decide ((q : Int) < (lo : Int)) = false := decide_eq_false (by omega)
          have hql2 : q = lo := by omega
          clear hql
          subst hql2
          go_wp2_with fail
          go_loopw [3, 12] (fun vf i wr => ∃ (u : Nat), i = .int .i64 (q + u : Nat) ∧ Bl (sofarL ⟨d, q, hi⟩ t A u) vf wr ∧ Below W3.heap.size W3 wr ∧ Hid (∀ h, hi = some h → q + u ≤ h) ∧ leftL (sofarL ⟨d, q, hi⟩ t A u) + u ≤ t.length + 1) (fun _ i _ => q + t.length + 2 - (intOf i).toNat)
          case atStart =>
            refine ⟨0, rfl, hBq, hbq, Lib.hid (fun h e => hlh.out h e), ?_⟩
            have h1 := leftL_le (sofarL ⟨d, q, hi⟩ t A 0)
            rw [hlens.out 0] at h1
            omega
          case round =>
            obtain ⟨u, rfl, hBu, hbu, hle, hleft⟩ := hrel
            have hszu := hbu.size
            have hEu := hEh.out.kept hbu
            have x0 := cellK hbu hs3 y0h.out
            have x1 := cellK hbu hs3 y1h.out
            have x2 := cellK hbu hs3 y2h.out
            clear z0 z1 z2
            by_cases hH9 : ((q + u : Nat) : Int) = H
            · have p2 : (((q + u : Nat) : Int) != H) = false := by rw [bne, show (((q + u : Nat) : Int) == H) = true by rw [beq_iff_eq]; exact hH9]; rfl
              have hfin := Lib.hid (show pceL ⟨d, q, hi⟩ t A = sofarL ⟨d, q, hi⟩ t A u by
                have h1 := hHH.out
                cases hi with
                | none =>
                  exfalso
                  have : H = -1 := h1.symm
                  omega
                | some h =>
                  have h2 : (h : Int) = H := h1
                  rw [pce_end (p := ⟨d, q, some h⟩) rfl]
                  show sofarL _ t A (h - q) = _
                  rw [show h - q = u by omega])
              clear hH9
              go_wp2_with fail
              go_roundw
              case rel => exact ⟨n, _, ps2, hn, rfl, Lib.hid (by rw [hlens.out u]), hBu, hbl3.trans (hbu.mono hsz3), hrw3, Lib.hid (by rw [hres.out]; show rowL ps2 t (pceL ⟨d, q, hi⟩ t A) = _; rw [hfin.out])⟩
              case measure => simp [intOf]; omega
            · have p2 : (((q + u : Nat) : Int) != H) = true := by rw [bne, intNe hH9]; rfl
              have hlt9 := Lib.hid (show ∀ h, hi = some h → q + (u + 1) ≤ h from fun h e => by
                have h1 := hle.out h e
                have h2 := hHH.out
                rw [e] at h2
                have h3 : (h : Int) = H := h2
                omega)
              clear hH9
              go_wp2_with fail
              refine (honce.out j m d r1 hj hat2.out hm1'.out _ _ (hlens.out u) _ hEu hBu).mono ?_
              rintro e w5 ⟨vo, rfl, hB5, hb5⟩
              have hBu5 := hBu.kept hb5
              have hbu5 := hbu.trans (hb5.mono hszu)
              have hl5 := Lib.hid ((hd.out t).len _ (hlens.out u))
              go_wp2_with fail
              refine (join_any _ _ _ _ ((hlens.out u).trans hl5.out.symm) (by rw [hlens.out u]; omega) _ hBu5 hB5).mono ?_
              rintro e w6 ⟨vj, rfl, hB6, hb6⟩
              have hBu6 := hBu5.kept hb6
              have hbu6 := hbu5.trans (hb6.mono hbu5.size)
              have hsu := Lib.hid (show orL (sofarL ⟨d, q, hi⟩ t A u) (d t (sofarL ⟨d, q, hi⟩ t A u)) = sofarL ⟨d, q, hi⟩ t A (u + 1) from (sofarL_succ ⟨d, q, hi⟩ t A u).symm)
              rw [hsu.out] at hB6
              go_wp2_with fail
              refine (same_any _ _ _ _ ((hlens.out (u + 1)).trans (hlens.out u).symm) (by rw [hlens.out (u + 1)]; omega) _ hB6 hBu6).mono ?_
              rintro e w7 ⟨rfl, hb7⟩
              have hBu7 := hBu6.kept hb7
              have hB7 := hB6.kept hb7
              have hbu7 := hbu6.trans (hb7.mono hbu6.size)
              have t0 := cellK hbu7 hs3 y0h.out
              have t1 := cellK hbu7 hs3 y1h.out
              have t2 := cellK hbu7 hs3 y2h.out
              by_cases hsame : sofarL ⟨d, q, hi⟩ t A (u + 1) = sofarL ⟨d, q, hi⟩ t A u
              · rw [decide_eq_true hsame]
                have hfin := Lib.hid (show pceL ⟨d, q, hi⟩ t A = sofarL ⟨d, q, hi⟩ t A u from pce_stop (p := ⟨d, q, hi⟩) hd.out hAl.out (fun h e => by have := hle.out h e; show u ≤ h - q; omega) ((sofarL_succ ⟨d, q, hi⟩ t A u).symm.trans hsame))
                clear hsame
                go_wp2_with fail
                go_roundw
                case rel => exact ⟨n, _, ps2, hn, rfl, Lib.hid (by rw [hlens.out u]), hBu7, hbl3.trans (hbu7.mono hsz3), hrw3, Lib.hid (by rw [hres.out]; show rowL ps2 t (pceL ⟨d, q, hi⟩ t A) = _; rw [hfin.out])⟩
                case measure => simp [intOf]; omega
              · rw [decide_eq_false hsame]
                have hup := sofar_up (p := ⟨d, q, hi⟩) (k := u) hd.out hAl.out (fun h => hsame ((sofarL_succ ⟨d, q, hi⟩ t A u).trans h))
                have hleft2 : leftL (sofarL ⟨d, q, hi⟩ t A (u + 1)) + (u + 1) ≤ t.length + 1 := by omega
                have hu9 : u < t.length + 1 := by omega
                clear hsame hup hleft
                go_wp2_with fail
                exact ⟨⟨u + 1, by go_num, hB7, hbu7, Lib.hid hlt9.out, hleft2⟩, by simp [intOf]; omega⟩
end Go.Proofs.YtfhgnnlhacjnkaaDoor

/-
  ref01.Sign: the walk.
-/
namespace Go.Proofs.YtfhgnnlhacjnkaaDoor
set_option linter.unusedVariables false
set_option linter.unusedSimpArgs false
open Go.RowKit PT

theorem ret_sg {s : ByteArray} {k : Nat} {n : Nat} {g : Bool} (h : sgn s k = (n, g)) : Ending.returned (.tuple #[.int .i64 (n : Int), .bool g]) = .returned (.tuple #[.int .i64 ((sgn s k).1 : Int), .bool (sgn s k).2]) := by rw [h]

set_option maxHeartbeats 4000000 in
set_option maxRecDepth 100000 in
theorem sign_long (base low m : Nat) (s : ByteArray) (k : Nat) (hk : k < s.size) (hs : s.size ≤ 1000000) (hc : Cls base low m (B s k)) (w : World) :
    Calls Tryd.prog 22 #[.string s, .int .i64 k] w fun e w' => e = .returned (.tuple #[.int .i64 ((sgn s k).1 : Int), .bool (sgn s k).2]) ∧ w = w' := by
  have hbad := Lib.hid (fun t => sgn_bad s k hc t)
  have hgood := Lib.hid (sgn_good s k hc)
  have hB := B_at s k hk
  have h1 := Lib.hid (pvs_1 s k base)
  rw [hB] at hc
  clear hB
  rcases hc with ⟨rfl, rfl, rfl, ha, hb⟩ | ⟨rfl, rfl, rfl, ha, hb⟩ | ⟨rfl, rfl, rfl, ha, hb⟩
  · have ha' : (194 : Int) ≤ (s[k].toNat : Int) := by omega
    have hc0 : (128 : Int) ≤ (s[k].toNat : Int) := by omega
    have hf1 : (s[k].toNat : Int) < 224 := by omega
    go_enter Tryd.func22, Tryd.ntmps22
    go_wp2_with fail
    go_loop [9, 10] (fun c i => ∃ t : Nat, 1 ≤ t ∧ t ≤ 2 ∧ i = .int .i64 t ∧ c = .int .i64 ((pvs s k 192 t : Nat) : Int) ∧ Hid (∀ j, 1 ≤ j → j < t → Cont (s.size - k) (B s (k + j)) j)) (fun _ i => 2 - (intOf i).toNat)
    case atStart => exact ⟨1, by omega, by omega, rfl, by rw [h1.out, B_at s k hk]; first | rfl | (congr 1; omega), fun j h h' => by omega⟩
    case round =>
      obtain ⟨t, ht1, ht2, rfl, rfl, hC⟩ := hrel
      have hp := pvs_le s k 192 t ht1 (by omega)
      by_cases hin : t ≤ 1
      · have hin' : (t : Int) ≤ (1 : Int) := by omega
        have hB1 := Lib.hid (hbad.out t ht1 hin)
        by_cases hsz : k + t < s.size
        · have hsz' : decide ((s.size : Int) ≤ (k : Int) + (t : Int)) = false := by simp; omega
          have hsz2 : (k : Int) + (t : Int) < (s.size : Int) := by omega
          have hBt := Lib.hid (B_at s (k + t) hsz)
          by_cases hlo : s[k + t].toNat < 128
          · have hlo' : (s[k + t].toNat : Int) < 128 := by omega
            have hS := Lib.hid (hB1.out (fun e => by unfold Cont at e; rw [hBt.out] at e; omega))
            go_wp2_with fail
            go_ret2
            exact ⟨ret_sg hS.out, rfl⟩
          · by_cases hhi : 192 ≤ s[k + t].toNat
            · have hlo' : decide ((s[k + t].toNat : Int) < 128) = false := by simp; omega
              have hhi' : (192 : Int) ≤ (s[k + t].toNat : Int) := by omega
              have hS := Lib.hid (hB1.out (fun e => by unfold Cont at e; rw [hBt.out] at e; omega))
              go_wp2_with fail
              go_ret2
              exact ⟨ret_sg hS.out, rfl⟩
            · have hlo' : decide ((s[k + t].toNat : Int) < 128) = false := by simp; omega
              have hhi' : decide ((192 : Int) ≤ (s[k + t].toNat : Int)) = false := by simp; omega
              have hlo2 : (128 : Int) ≤ (s[k + t].toNat : Int) := by omega
              have hhi2 : (s[k + t].toNat : Int) < 192 := by omega
              have hP := Lib.hid (pvs_succ s k 192 t ht1 (by omega))
              have hC' : Hid (∀ j, 1 ≤ j → j < t + 1 → Cont (s.size - k) (B s (k + j)) j) := fun j h h' => by
                by_cases e : j = t
                · subst e; unfold Cont; rw [hBt.out]; omega
                · exact hC.out j h (by omega)
              go_wp2_with fail
              go_round
              case rel => exact ⟨t + 1, by omega, by omega, by go_num, by rw [hP.out, hBt.out]; congr 1; omega, hC'⟩
              case measure => simp [intOf]; omega
        · have hsz' : (s.size : Int) ≤ (k : Int) + (t : Int) := by omega
          have hS := Lib.hid (hB1.out (fun e => by unfold Cont at e; omega))
          go_wp2_with fail
          go_ret2
          exact ⟨ret_sg hS.out, rfl⟩
      · obtain rfl : t = 2 := by omega
        have hG := Lib.hid (hgood.out (fun j h h' => hC.out j h (by omega)))
        have hp0 : (0 : Int) ≤ ((pvs s k 192 2 : Nat) : Int) := by omega
        generalize pvs s k 192 2 = v at *
        by_cases hb : bad 128 v
        · have hS := hG.out.trans (if_pos hb)
          have HS := Lib.hid hS
          unfold bad at hb
          clear hS
          by_cases b1 : v < 128
          · have b1' : (v : Int) < 128 := by omega
            go_wp2_with fail
            go_ret2
            exact ⟨ret_sg HS.out, rfl⟩
          · have b1' : decide ((v : Int) < 128) = false := by simp; omega
            by_cases b2 : 1114111 < v
            · have b2' : (1114111 : Int) < (v : Int) := by omega
              go_wp2_with fail
              go_ret2
              exact ⟨ret_sg HS.out, rfl⟩
            · have b2' : decide ((1114111 : Int) < (v : Int)) = false := by simp; omega
              have b3' : (55296 : Int) ≤ (v : Int) := by omega
              have b4' : (v : Int) < 57344 := by omega
              go_wp2_with fail
              go_ret2
              exact ⟨ret_sg HS.out, rfl⟩
        · have hS := hG.out.trans (if_neg hb)
          have HS := Lib.hid hS
          unfold bad at hb
          clear hS
          have b1' : decide ((v : Int) < 128) = false := by simp; omega
          have b2' : decide ((1114111 : Int) < (v : Int)) = false := by simp; omega
          have e2 : decide ((65535 : Int) < (v : Int)) = decide (65535 < v) := by simp; omega
          by_cases b3 : 55296 ≤ v
          · have b3' : (55296 : Int) ≤ (v : Int) := by omega
            have b4' : decide ((v : Int) < 57344) = false := by simp; omega
            go_wp2_with fail
            go_ret2
            exact ⟨ret_sg HS.out, rfl⟩
          · have b3' : decide ((55296 : Int) ≤ (v : Int)) = false := by simp; omega
            go_wp2_with fail
            go_ret2
            exact ⟨ret_sg HS.out, rfl⟩
  · have ha' : (194 : Int) ≤ (s[k].toNat : Int) := by omega
    have hc0 : (128 : Int) ≤ (s[k].toNat : Int) := by omega
    have hf1 : (224 : Int) ≤ (s[k].toNat : Int) := by omega
    have hf2 : (s[k].toNat : Int) < 240 := by omega
    go_enter Tryd.func22, Tryd.ntmps22
    go_wp2_with fail
    go_loop [9, 10] (fun c i => ∃ t : Nat, 1 ≤ t ∧ t ≤ 3 ∧ i = .int .i64 t ∧ c = .int .i64 ((pvs s k 224 t : Nat) : Int) ∧ Hid (∀ j, 1 ≤ j → j < t → Cont (s.size - k) (B s (k + j)) j)) (fun _ i => 3 - (intOf i).toNat)
    case atStart => exact ⟨1, by omega, by omega, rfl, by rw [h1.out, B_at s k hk]; first | rfl | (congr 1; omega), fun j h h' => by omega⟩
    case round =>
      obtain ⟨t, ht1, ht2, rfl, rfl, hC⟩ := hrel
      have hp := pvs_le s k 224 t ht1 (by omega)
      by_cases hin : t ≤ 2
      · have hin' : (t : Int) ≤ (2 : Int) := by omega
        have hB1 := Lib.hid (hbad.out t ht1 hin)
        by_cases hsz : k + t < s.size
        · have hsz' : decide ((s.size : Int) ≤ (k : Int) + (t : Int)) = false := by simp; omega
          have hsz2 : (k : Int) + (t : Int) < (s.size : Int) := by omega
          have hBt := Lib.hid (B_at s (k + t) hsz)
          by_cases hlo : s[k + t].toNat < 128
          · have hlo' : (s[k + t].toNat : Int) < 128 := by omega
            have hS := Lib.hid (hB1.out (fun e => by unfold Cont at e; rw [hBt.out] at e; omega))
            go_wp2_with fail
            go_ret2
            exact ⟨ret_sg hS.out, rfl⟩
          · by_cases hhi : 192 ≤ s[k + t].toNat
            · have hlo' : decide ((s[k + t].toNat : Int) < 128) = false := by simp; omega
              have hhi' : (192 : Int) ≤ (s[k + t].toNat : Int) := by omega
              have hS := Lib.hid (hB1.out (fun e => by unfold Cont at e; rw [hBt.out] at e; omega))
              go_wp2_with fail
              go_ret2
              exact ⟨ret_sg hS.out, rfl⟩
            · have hlo' : decide ((s[k + t].toNat : Int) < 128) = false := by simp; omega
              have hhi' : decide ((192 : Int) ≤ (s[k + t].toNat : Int)) = false := by simp; omega
              have hlo2 : (128 : Int) ≤ (s[k + t].toNat : Int) := by omega
              have hhi2 : (s[k + t].toNat : Int) < 192 := by omega
              have hP := Lib.hid (pvs_succ s k 224 t ht1 (by omega))
              have hC' : Hid (∀ j, 1 ≤ j → j < t + 1 → Cont (s.size - k) (B s (k + j)) j) := fun j h h' => by
                by_cases e : j = t
                · subst e; unfold Cont; rw [hBt.out]; omega
                · exact hC.out j h (by omega)
              go_wp2_with fail
              go_round
              case rel => exact ⟨t + 1, by omega, by omega, by go_num, by rw [hP.out, hBt.out]; congr 1; omega, hC'⟩
              case measure => simp [intOf]; omega
        · have hsz' : (s.size : Int) ≤ (k : Int) + (t : Int) := by omega
          have hS := Lib.hid (hB1.out (fun e => by unfold Cont at e; omega))
          go_wp2_with fail
          go_ret2
          exact ⟨ret_sg hS.out, rfl⟩
      · obtain rfl : t = 3 := by omega
        have hG := Lib.hid (hgood.out (fun j h h' => hC.out j h (by omega)))
        have hp0 : (0 : Int) ≤ ((pvs s k 224 3 : Nat) : Int) := by omega
        generalize pvs s k 224 3 = v at *
        by_cases hb : bad 2048 v
        · have hS := hG.out.trans (if_pos hb)
          have HS := Lib.hid hS
          unfold bad at hb
          clear hS
          by_cases b1 : v < 2048
          · have b1' : (v : Int) < 2048 := by omega
            go_wp2_with fail
            go_ret2
            exact ⟨ret_sg HS.out, rfl⟩
          · have b1' : decide ((v : Int) < 2048) = false := by simp; omega
            by_cases b2 : 1114111 < v
            · have b2' : (1114111 : Int) < (v : Int) := by omega
              go_wp2_with fail
              go_ret2
              exact ⟨ret_sg HS.out, rfl⟩
            · have b2' : decide ((1114111 : Int) < (v : Int)) = false := by simp; omega
              have b3' : (55296 : Int) ≤ (v : Int) := by omega
              have b4' : (v : Int) < 57344 := by omega
              go_wp2_with fail
              go_ret2
              exact ⟨ret_sg HS.out, rfl⟩
        · have hS := hG.out.trans (if_neg hb)
          have HS := Lib.hid hS
          unfold bad at hb
          clear hS
          have b1' : decide ((v : Int) < 2048) = false := by simp; omega
          have b2' : decide ((1114111 : Int) < (v : Int)) = false := by simp; omega
          have e2 : decide ((65535 : Int) < (v : Int)) = decide (65535 < v) := by simp; omega
          by_cases b3 : 55296 ≤ v
          · have b3' : (55296 : Int) ≤ (v : Int) := by omega
            have b4' : decide ((v : Int) < 57344) = false := by simp; omega
            go_wp2_with fail
            go_ret2
            exact ⟨ret_sg HS.out, rfl⟩
          · have b3' : decide ((55296 : Int) ≤ (v : Int)) = false := by simp; omega
            go_wp2_with fail
            go_ret2
            exact ⟨ret_sg HS.out, rfl⟩
  · have ha' : (194 : Int) ≤ (s[k].toNat : Int) := by omega
    have hc0 : (128 : Int) ≤ (s[k].toNat : Int) := by omega
    have hf1 : (240 : Int) ≤ (s[k].toNat : Int) := by omega
    have hf2 : (s[k].toNat : Int) < 245 := by omega
    have hf3 : (224 : Int) ≤ (s[k].toNat : Int) := by omega
    go_enter Tryd.func22, Tryd.ntmps22
    go_wp2_with fail
    go_loop [9, 10] (fun c i => ∃ t : Nat, 1 ≤ t ∧ t ≤ 4 ∧ i = .int .i64 t ∧ c = .int .i64 ((pvs s k 240 t : Nat) : Int) ∧ Hid (∀ j, 1 ≤ j → j < t → Cont (s.size - k) (B s (k + j)) j)) (fun _ i => 4 - (intOf i).toNat)
    case atStart => exact ⟨1, by omega, by omega, rfl, by rw [h1.out, B_at s k hk]; first | rfl | (congr 1; omega), fun j h h' => by omega⟩
    case round =>
      obtain ⟨t, ht1, ht2, rfl, rfl, hC⟩ := hrel
      have hp := pvs_le s k 240 t ht1 (by omega)
      by_cases hin : t ≤ 3
      · have hin' : (t : Int) ≤ (3 : Int) := by omega
        have hB1 := Lib.hid (hbad.out t ht1 hin)
        by_cases hsz : k + t < s.size
        · have hsz' : decide ((s.size : Int) ≤ (k : Int) + (t : Int)) = false := by simp; omega
          have hsz2 : (k : Int) + (t : Int) < (s.size : Int) := by omega
          have hBt := Lib.hid (B_at s (k + t) hsz)
          by_cases hlo : s[k + t].toNat < 128
          · have hlo' : (s[k + t].toNat : Int) < 128 := by omega
            have hS := Lib.hid (hB1.out (fun e => by unfold Cont at e; rw [hBt.out] at e; omega))
            go_wp2_with fail
            go_ret2
            exact ⟨ret_sg hS.out, rfl⟩
          · by_cases hhi : 192 ≤ s[k + t].toNat
            · have hlo' : decide ((s[k + t].toNat : Int) < 128) = false := by simp; omega
              have hhi' : (192 : Int) ≤ (s[k + t].toNat : Int) := by omega
              have hS := Lib.hid (hB1.out (fun e => by unfold Cont at e; rw [hBt.out] at e; omega))
              go_wp2_with fail
              go_ret2
              exact ⟨ret_sg hS.out, rfl⟩
            · have hlo' : decide ((s[k + t].toNat : Int) < 128) = false := by simp; omega
              have hhi' : decide ((192 : Int) ≤ (s[k + t].toNat : Int)) = false := by simp; omega
              have hlo2 : (128 : Int) ≤ (s[k + t].toNat : Int) := by omega
              have hhi2 : (s[k + t].toNat : Int) < 192 := by omega
              have hP := Lib.hid (pvs_succ s k 240 t ht1 (by omega))
              have hC' : Hid (∀ j, 1 ≤ j → j < t + 1 → Cont (s.size - k) (B s (k + j)) j) := fun j h h' => by
                by_cases e : j = t
                · subst e; unfold Cont; rw [hBt.out]; omega
                · exact hC.out j h (by omega)
              go_wp2_with fail
              go_round
              case rel => exact ⟨t + 1, by omega, by omega, by go_num, by rw [hP.out, hBt.out]; congr 1; omega, hC'⟩
              case measure => simp [intOf]; omega
        · have hsz' : (s.size : Int) ≤ (k : Int) + (t : Int) := by omega
          have hS := Lib.hid (hB1.out (fun e => by unfold Cont at e; omega))
          go_wp2_with fail
          go_ret2
          exact ⟨ret_sg hS.out, rfl⟩
      · obtain rfl : t = 4 := by omega
        have hG := Lib.hid (hgood.out (fun j h h' => hC.out j h (by omega)))
        have hp0 : (0 : Int) ≤ ((pvs s k 240 4 : Nat) : Int) := by omega
        generalize pvs s k 240 4 = v at *
        by_cases hb : bad 65536 v
        · have hS := hG.out.trans (if_pos hb)
          have HS := Lib.hid hS
          unfold bad at hb
          clear hS
          by_cases b1 : v < 65536
          · have b1' : (v : Int) < 65536 := by omega
            go_wp2_with fail
            go_ret2
            exact ⟨ret_sg HS.out, rfl⟩
          · have b1' : decide ((v : Int) < 65536) = false := by simp; omega
            by_cases b2 : 1114111 < v
            · have b2' : (1114111 : Int) < (v : Int) := by omega
              go_wp2_with fail
              go_ret2
              exact ⟨ret_sg HS.out, rfl⟩
            · have b2' : decide ((1114111 : Int) < (v : Int)) = false := by simp; omega
              have b3' : (55296 : Int) ≤ (v : Int) := by omega
              have b4' : (v : Int) < 57344 := by omega
              go_wp2_with fail
              go_ret2
              exact ⟨ret_sg HS.out, rfl⟩
        · have hS := hG.out.trans (if_neg hb)
          have HS := Lib.hid hS
          unfold bad at hb
          clear hS
          have b1' : decide ((v : Int) < 65536) = false := by simp; omega
          have b2' : decide ((1114111 : Int) < (v : Int)) = false := by simp; omega
          have e2 : decide ((65535 : Int) < (v : Int)) = decide (65535 < v) := by simp; omega
          by_cases b3 : 55296 ≤ v
          · have b3' : (55296 : Int) ≤ (v : Int) := by omega
            have b4' : decide ((v : Int) < 57344) = false := by simp; omega
            go_wp2_with fail
            go_ret2
            exact ⟨ret_sg HS.out, rfl⟩
          · have b3' : decide ((55296 : Int) ≤ (v : Int)) = false := by simp; omega
            go_wp2_with fail
            go_ret2
            exact ⟨ret_sg HS.out, rfl⟩

set_option maxRecDepth 100000 in
theorem sign_any (s : ByteArray) (k : Nat) (hk : k < s.size) (hs : s.size ≤ 1000000) (w : World) :
    Calls Tryd.prog 22 #[.string s, .int .i64 k] w fun e w' => e = .returned (.tuple #[.int .i64 ((sgn s k).1 : Int), .bool (sgn s k).2]) ∧ w = w' := by
  by_cases h1 : 194 ≤ B s k ∧ B s k < 224
  · exact sign_long 192 128 1 s k hk hs (Or.inl ⟨rfl, rfl, rfl, h1⟩) w
  by_cases h2 : 224 ≤ B s k ∧ B s k < 240
  · exact sign_long 224 2048 2 s k hk hs (Or.inr (Or.inl ⟨rfl, rfl, rfl, h2⟩)) w
  by_cases h3 : 240 ≤ B s k ∧ B s k < 245
  · exact sign_long 240 65536 3 s k hk hs (Or.inr (Or.inr ⟨rfl, rfl, rfl, h3⟩)) w
  by_cases h0 : B s k < 128
  · have hS := Lib.hid (sgn_low s k h0)
    rw [B_at s k hk] at h0
    have h0' : (s[k].toNat : Int) < 128 := by omega
    clear h1 h2 h3
    go_enter Tryd.func22, Tryd.ntmps22
    go_wp2_with fail
    go_ret2
    exact ⟨ret_sg hS.out, rfl⟩
  · have hS := Lib.hid (sgn_none s k h0 h1 h2 h3)
    rw [B_at s k hk] at h0 h1 h2 h3
    have hb : s[k].toNat < 256 := s[k].toNat_lt
    have h0' : decide ((s[k].toNat : Int) < 128) = false := by simp; omega
    by_cases hlo : s[k].toNat < 194
    · have a1 : (s[k].toNat : Int) < 194 := by omega
      clear h1 h2 h3
      go_enter Tryd.func22, Tryd.ntmps22
      go_wp2_with fail
      go_ret2
      exact ⟨ret_sg hS.out, rfl⟩
    · have a1 : (245 : Int) ≤ (s[k].toNat : Int) := by omega
      clear h1 h2 h3
      go_enter Tryd.func22, Tryd.ntmps22
      go_wp2_with fail
      go_ret2
      exact ⟨ret_sg hS.out, rfl⟩
end Go.Proofs.YtfhgnnlhacjnkaaDoor

/-
  The signs of a text, by the document: ref09.Signs: the walk.
-/
namespace Go.Proofs.YtfhgnnlhacjnkaaDoor
set_option linter.unusedVariables false
set_option linter.unusedSimpArgs false
open Go.RowKit PT
open Go.Lib (decodeN decodeL validD)

theorem dec_width (n b0 b1 b2 b3 : Nat) : (decodeN n b0 b1 b2 b3).2 = 1 ∨ (decodeN n b0 b1 b2 b3).2 = 2 ∨ (decodeN n b0 b1 b2 b3).2 = 3 ∨ (decodeN n b0 b1 b2 b3).2 = 4 := by
  unfold decodeN
  split
  · simp
  split
  · split <;> simp
  split
  · split <;> simp
  split
  · split <;> simp
  · simp
theorem sgn_zero (s : ByteArray) (k : Nat) (hk : k < s.size) (h : (sgn s k).1 = 0) : sigs (s.data.toList.drop k) = 65533 :: sigs (s.data.toList.drop (k + 1)) := by
  rw [sigs_step _ (drop_ne s k hk)]
  rw [sgn_L] at h
  by_cases hb : (decodeL (s.data.toList.drop k)).1 = 65533 ∧ (decodeL (s.data.toList.drop k)).2 = 1
  · rw [hb.1, hb.2, List.drop_drop]
  · rw [sgOf_ok _ hb] at h
    have := decodeL_pos (s.data.toList.drop k)
    simp only at h
    omega
theorem drop_getD (s : ByteArray) (k i : Nat) (h : k + i < s.size) : ((s.data.toList.drop k).getD i 0) = s[k + i] := by
  rw [List.getD_eq_getElem?_getD, List.getElem?_drop, List.getElem?_eq_getElem (by simpa using h)]
  rfl
/-- the code of a sign of n bytes, step by step -/
def codeT (n : Nat) (b : Nat → Nat) : Nat → Nat
  | 0 => 0
  | 1 => if n = 1 then b 0 else b 0 % 2 ^ (7 - n)
  | t + 2 => codeT n b (t + 1) * 64 + b (t + 1) % 64
theorem sgn_good9 (s : ByteArray) (k : Nat) (hk : k < s.size) (h : (sgn s k).1 ≠ 0) : ∃ n, (sgn s k).1 = n ∧ (n = 1 ∨ n = 2 ∨ n = 3 ∨ n = 4) ∧ k + n ≤ s.size ∧ sigs (s.data.toList.drop k) = codeT n (fun i => ((s.data.toList.drop k).getD i 0).toNat) n :: sigs (s.data.toList.drop (k + n)) := by
  have hle := sgn_le s k hk
  rw [sigs_step _ (drop_ne s k hk)]
  rw [sgn_L] at h hle ⊢
  by_cases hb : (decodeL (s.data.toList.drop k)).1 = 65533 ∧ (decodeL (s.data.toList.drop k)).2 = 1
  · rw [sgOf_bad _ hb] at h
    exact absurd rfl h
  · rw [sgOf_ok _ hb] at h hle ⊢
    simp only at h hle ⊢
    refine ⟨(decodeL (s.data.toList.drop k)).2, rfl, ?_, hle, ?_⟩
    · rw [Lib.decodeL_N]; exact dec_width _ _ _ _ _
    · rw [List.drop_drop]
      congr 1
      rw [Lib.decodeL_N] at hb ⊢
      obtain ⟨h2, h3, h4, h1⟩ := dec_code (s.data.toList.drop k).length ((s.data.toList.drop k).getD 0 0).toNat ((s.data.toList.drop k).getD 1 0).toNat ((s.data.toList.drop k).getD 2 0).toNat ((s.data.toList.drop k).getD 3 0).toNat
      rcases dec_width (s.data.toList.drop k).length ((s.data.toList.drop k).getD 0 0).toNat ((s.data.toList.drop k).getD 1 0).toNat ((s.data.toList.drop k).getD 2 0).toNat ((s.data.toList.drop k).getD 3 0).toNat with e | e | e | e
      · rcases h1 e with h | h
        · rw [h, e]; rfl
        · exact absurd ⟨h, e⟩ hb
      · rw [h2 e, e]; rfl
      · rw [h3 e, e]; rfl
      · rw [h4 e, e]; rfl
theorem codeT_le (n : Nat) (b : Nat → Nat) (hb : ∀ i, b i < 256) : ∀ t, codeT n b t + 1 ≤ 256 * 64 ^ t
  | 0 => by simp [codeT]
  | 1 => by
    have := hb 0
    unfold codeT
    split
    · omega
    · have := Nat.mod_le (b 0) (2 ^ (7 - n)); omega
  | t + 2 => by
    have := codeT_le n b hb (t + 1)
    show codeT n b (t + 1) * 64 + b (t + 1) % 64 + 1 ≤ 256 * 64 ^ (t + 2)
    rw [show 64 ^ (t + 2) = 64 ^ (t + 1) * 64 from rfl]
    generalize 64 ^ (t + 1) = z at *
    omega
theorem codeT_small (n : Nat) (b : Nat → Nat) (hb : ∀ i, b i < 256) (t : Nat) (ht : t ≤ 4) : codeT n b t ≤ 4294967296 := by
  have := codeT_le n b hb t
  have h2 : 64 ^ t ≤ 64 ^ 4 := Nat.pow_le_pow_right (by omega) ht
  have h3 : 64 ^ 4 = 16777216 := by decide
  omega
theorem info_int9 : (Tryd.prog.info? 3).map (fun i => (i.zero, i.size, i.bytes)) = some (some (.int .i64 0), 1, 8) := by kernel_rfl
def sgV (x : Nat) : Value := .int .i64 (x : Int)
theorem w9 (b : UInt8) : wrap64 (b.toNat : Int) = (b.toNat : Int) := by have := b.toNat_lt; unfold wrap64; omega
theorem step9 (z : Nat) (b : UInt8) (hz : z ≤ 4294967296) : Value.int .i64 (wrap64 ((z : Int) * 64 + (wrap64 (b.toNat : Int)).tmod 64)) = Value.int .i64 ((z * 64 + b.toNat % 64 : Nat) : Int) := by
  rw [w9, show ((b.toNat : Int)).tmod 64 = ((b.toNat % 64 : Nat) : Int) from rfl]
  have : b.toNat % 64 < 64 := Nat.mod_lt _ (by decide)
  generalize b.toNat % 64 = y at *
  congr 1
  unfold wrap64
  omega
theorem start9 (m : Nat) (b : UInt8) : Value.int .i64 ((wrap64 (b.toNat : Int)).tmod (m : Int)) = Value.int .i64 ((b.toNat % m : Nat) : Int) := by rw [w9]; rfl
theorem one9 (b : UInt8) : Value.int .i64 (wrap64 (b.toNat : Int)) = Value.int .i64 (b.toNat : Int) := by rw [w9]
set_option maxHeartbeats 4000000 in
set_option maxRecDepth 100000 in
theorem signs_any (s : ByteArray) (hs : s.size ≤ 1000000) (w : World) :
    Calls Tryd.prog 16 #[.string s] w fun e w' => ∃ vo, e = .returned vo ∧ OV w.heap.size 3 ((sigs s.data.toList).map sgV) vo w' ∧ Below w.heap.size w w' := by
  go_enter Tryd.func16, Tryd.ntmps16
  go_wp2_with fail
  go_loopw [3, 4] (fun vo i wr => ∃ (k : Nat) (acc : List Nat), k ≤ s.size ∧ i = .int .i64 k ∧ OV w.heap.size 3 (acc.map sgV) vo wr ∧ acc.length ≤ k ∧ Below w.heap.size w wr ∧ Hid (acc ++ sigs (s.data.toList.drop k) = sigs s.data.toList)) (fun _ i _ => s.size - (intOf i).toNat)
  case atStart => exact ⟨0, [], Nat.zero_le _, rfl, OV.nil _ _ _, Nat.le_refl _, Below.refl _ _, Lib.hid rfl⟩
  case round =>
    obtain ⟨k, acc, hk, rfl, hov, hacc, hbel, hI⟩ := hrel
    have hsz := hbel.size
    have hlen : (acc.map sgV).length < 17179869184 := by rw [List.length_map]; omega
    obtain ⟨va, vcap, hv, _⟩ := hov.form
    rw [List.length_map] at hv
    subst hv
    by_cases hlt : k < s.size
    · have hle := sgn_le s k hlt
      go_wp2_with fail
      refine (sign_any s k hlt hs _).mono ?_
      rintro e w' ⟨rfl, rfl⟩
      by_cases h0 : (sgn s k).1 = 0
      · have hN := Lib.hid (show (acc ++ [65533]) ++ sigs (s.data.toList.drop (k + 1)) = sigs s.data.toList by
          rw [← hI.out, sgn_zero s k hlt h0, List.append_assoc]; rfl)
        rw [h0]
        clear h0
        go_wp2_with (at_builtin; refine wpList_append_cell rfl _ _ 34 3 rfl Tryd.underlying34 info_int9 rfl (by decide) rfl rfl (.int .i64 65533) rfl hov hlen hsz ?_; intro v' w1 hov2 hb2)
        go_roundw
        case rel => exact ⟨k + 1, acc ++ [65533], by omega, by go_num, by simpa [sgV] using hov2, by rw [List.length_append]; simp; omega, hbel.trans hb2, hN⟩
        case measure => simp [intOf]; omega
      · obtain ⟨n, hn, hn4, hkn, hsg⟩ := sgn_good9 s k hlt h0
        rw [hn]
        have hb256 : ∀ i, ((s.data.toList.drop k).getD i 0).toNat < 256 := fun i => UInt8.toNat_lt _
        have hbt := Lib.hid (fun i (h : k + i < s.size) => congrArg UInt8.toNat (drop_getD s k i h))
        have hcs := Lib.hid (codeT_small n _ hb256)
        have hN := Lib.hid (show ∀ x, codeT n (fun i => ((s.data.toList.drop k).getD i 0).toNat) n = x → (acc ++ [x]) ++ sigs (s.data.toList.drop (k + n)) = sigs s.data.toList from fun x hx => by
          rw [← hI.out, hsg, hx, List.append_assoc]; rfl)
        obtain ⟨B, hB⟩ : ∃ B, (fun i => ((s.data.toList.drop k).getD i 0).toNat) = B := ⟨_, rfl⟩
        have hbt2 := Lib.hid (fun i (h : k + i < s.size) => show B i = (s[k + i]).toNat by rw [← hB]; exact hbt.out i h)
        rw [hB] at hcs hN
        clear hsg hbt hb256 hB h0 hle hn
        have n0 : ((n : Int) == 0) = false := intNe (by omega)
        have hk0 : B 0 = s[k].toNat := hbt2.out 0 hlt
        replace hk0 := Lib.hid hk0
        have hw0 : Hid (wrap64 (s[k].toNat : Int) = (s[k].toNat : Int)) := Lib.hid <| by have := s[k].toNat_lt; unfold wrap64; omega
        rcases hn4 with rfl | rfl | rfl | rfl
        · have hc1 := Lib.hid (show codeT 1 B 1 = B 0 from rfl)
          go_wp2_with fail
          go_loop [7, 8] (fun c i => ∃ t : Nat, 1 ≤ t ∧ t ≤ 1 ∧ i = .int .i64 t ∧ c = .int .i64 (codeT 1 B t : Nat)) (fun _ i => 1 - (intOf i).toNat)
          case atStart => exact ⟨1, Nat.le_refl _, by omega, rfl, by rw [hc1.out, hk0.out]; exact one9 _⟩
          case round =>
            obtain ⟨t, ht1, ht2, rfl, rfl⟩ := hrel
            have hct := hcs.out t (by omega)
            by_cases htn : t < 1
            · omega
            · obtain rfl : t = 1 := by omega
              obtain ⟨z, hz⟩ : ∃ z, codeT 1 B 1 = z := ⟨_, rfl⟩
              have hN2 := Lib.hid (hN.out z hz)
              rw [hz]
              clear hz
              go_wp2_with (at_builtin; refine wpList_append_cell rfl _ _ 34 3 rfl Tryd.underlying34 info_int9 rfl (by decide) rfl rfl (.int .i64 (z : Int)) rfl hov hlen hsz ?_; intro v' w1 hov2 hb2)
              go_roundw
              case rel => exact ⟨k + 1, acc ++ [z], by omega, by go_num, by simpa [sgV] using hov2, by rw [List.length_append]; simp; omega, hbel.trans hb2, hN2.out⟩
              case measure => simp [intOf]; omega
        · have hc1 := Lib.hid (show codeT 2 B 1 = B 0 % 32 from rfl)
          go_wp2_with fail
          go_loop [7, 8] (fun c i => ∃ t : Nat, 1 ≤ t ∧ t ≤ 2 ∧ i = .int .i64 t ∧ c = .int .i64 (codeT 2 B t : Nat)) (fun _ i => 2 - (intOf i).toNat)
          case atStart => exact ⟨1, Nat.le_refl _, by omega, rfl, by rw [hc1.out, hk0.out]; exact start9 32 _⟩
          case round =>
            obtain ⟨t, ht1, ht2, rfl, rfl⟩ := hrel
            have hct := hcs.out t (by omega)
            by_cases htn : t < 2
            · have hkt : k + t < s.size := by omega
              have hbt3 := Lib.hid (hbt2.out t hkt)
              have hS := Lib.hid (show codeT 2 B (t + 1) = codeT 2 B t * 64 + (s[k + t]).toNat % 64 by
                obtain ⟨u, rfl⟩ : ∃ u, t = u + 1 := ⟨t - 1, by omega⟩
                rw [← hbt3.out]; rfl)
              have hwt : Hid (wrap64 (s[k + t].toNat : Int) = (s[k + t].toNat : Int)) := Lib.hid <| by have := s[k + t].toNat_lt; unfold wrap64; omega
              have hkt1 : (k : Int) + (t : Int) < (s.size : Int) := by omega
              generalize codeT 2 B t = z at *
              go_wp2_with fail
              exact ⟨⟨t + 1, by omega, by omega, by go_num, by rw [hS.out]; exact step9 _ _ hct⟩, by simp [intOf]; omega⟩
            · obtain rfl : t = 2 := by omega
              obtain ⟨z, hz⟩ : ∃ z, codeT 2 B 2 = z := ⟨_, rfl⟩
              have hN2 := Lib.hid (hN.out z hz)
              rw [hz]
              clear hz
              go_wp2_with (at_builtin; refine wpList_append_cell rfl _ _ 34 3 rfl Tryd.underlying34 info_int9 rfl (by decide) rfl rfl (.int .i64 (z : Int)) rfl hov hlen hsz ?_; intro v' w1 hov2 hb2)
              go_roundw
              case rel => exact ⟨k + 2, acc ++ [z], by omega, by go_num, by simpa [sgV] using hov2, by rw [List.length_append]; simp; omega, hbel.trans hb2, hN2.out⟩
              case measure => simp [intOf]; omega
        · have hc1 := Lib.hid (show codeT 3 B 1 = B 0 % 16 from rfl)
          go_wp2_with fail
          go_loop [7, 8] (fun c i => ∃ t : Nat, 1 ≤ t ∧ t ≤ 3 ∧ i = .int .i64 t ∧ c = .int .i64 (codeT 3 B t : Nat)) (fun _ i => 3 - (intOf i).toNat)
          case atStart => exact ⟨1, Nat.le_refl _, by omega, rfl, by rw [hc1.out, hk0.out]; exact start9 16 _⟩
          case round =>
            obtain ⟨t, ht1, ht2, rfl, rfl⟩ := hrel
            have hct := hcs.out t (by omega)
            by_cases htn : t < 3
            · have hkt : k + t < s.size := by omega
              have hbt3 := Lib.hid (hbt2.out t hkt)
              have hS := Lib.hid (show codeT 3 B (t + 1) = codeT 3 B t * 64 + (s[k + t]).toNat % 64 by
                obtain ⟨u, rfl⟩ : ∃ u, t = u + 1 := ⟨t - 1, by omega⟩
                rw [← hbt3.out]; rfl)
              have hwt : Hid (wrap64 (s[k + t].toNat : Int) = (s[k + t].toNat : Int)) := Lib.hid <| by have := s[k + t].toNat_lt; unfold wrap64; omega
              have hkt1 : (k : Int) + (t : Int) < (s.size : Int) := by omega
              generalize codeT 3 B t = z at *
              go_wp2_with fail
              exact ⟨⟨t + 1, by omega, by omega, by go_num, by rw [hS.out]; exact step9 _ _ hct⟩, by simp [intOf]; omega⟩
            · obtain rfl : t = 3 := by omega
              obtain ⟨z, hz⟩ : ∃ z, codeT 3 B 3 = z := ⟨_, rfl⟩
              have hN2 := Lib.hid (hN.out z hz)
              rw [hz]
              clear hz
              go_wp2_with (at_builtin; refine wpList_append_cell rfl _ _ 34 3 rfl Tryd.underlying34 info_int9 rfl (by decide) rfl rfl (.int .i64 (z : Int)) rfl hov hlen hsz ?_; intro v' w1 hov2 hb2)
              go_roundw
              case rel => exact ⟨k + 3, acc ++ [z], by omega, by go_num, by simpa [sgV] using hov2, by rw [List.length_append]; simp; omega, hbel.trans hb2, hN2.out⟩
              case measure => simp [intOf]; omega
        · have hc1 := Lib.hid (show codeT 4 B 1 = B 0 % 8 from rfl)
          go_wp2_with fail
          go_loop [7, 8] (fun c i => ∃ t : Nat, 1 ≤ t ∧ t ≤ 4 ∧ i = .int .i64 t ∧ c = .int .i64 (codeT 4 B t : Nat)) (fun _ i => 4 - (intOf i).toNat)
          case atStart => exact ⟨1, Nat.le_refl _, by omega, rfl, by rw [hc1.out, hk0.out]; exact start9 8 _⟩
          case round =>
            obtain ⟨t, ht1, ht2, rfl, rfl⟩ := hrel
            have hct := hcs.out t (by omega)
            by_cases htn : t < 4
            · have hkt : k + t < s.size := by omega
              have hbt3 := Lib.hid (hbt2.out t hkt)
              have hS := Lib.hid (show codeT 4 B (t + 1) = codeT 4 B t * 64 + (s[k + t]).toNat % 64 by
                obtain ⟨u, rfl⟩ : ∃ u, t = u + 1 := ⟨t - 1, by omega⟩
                rw [← hbt3.out]; rfl)
              have hwt : Hid (wrap64 (s[k + t].toNat : Int) = (s[k + t].toNat : Int)) := Lib.hid <| by have := s[k + t].toNat_lt; unfold wrap64; omega
              have hkt1 : (k : Int) + (t : Int) < (s.size : Int) := by omega
              generalize codeT 4 B t = z at *
              go_wp2_with fail
              exact ⟨⟨t + 1, by omega, by omega, by go_num, by rw [hS.out]; exact step9 _ _ hct⟩, by simp [intOf]; omega⟩
            · obtain rfl : t = 4 := by omega
              obtain ⟨z, hz⟩ : ∃ z, codeT 4 B 4 = z := ⟨_, rfl⟩
              have hN2 := Lib.hid (hN.out z hz)
              rw [hz]
              clear hz
              go_wp2_with (at_builtin; refine wpList_append_cell rfl _ _ 34 3 rfl Tryd.underlying34 info_int9 rfl (by decide) rfl rfl (.int .i64 (z : Int)) rfl hov hlen hsz ?_; intro v' w1 hov2 hb2)
              go_roundw
              case rel => exact ⟨k + 4, acc ++ [z], by omega, by go_num, by simpa [sgV] using hov2, by rw [List.length_append]; simp; omega, hbel.trans hb2, hN2.out⟩
              case measure => simp [intOf]; omega
    · obtain rfl : k = s.size := by omega
      have hE := Lib.hid (show acc = sigs s.data.toList by
        rw [← hI.out, List.drop_eq_nil_of_le (by simp), sigs_nil, List.append_nil])
      go_wp2_with fail
      go_ret
      exact ⟨_, rfl, by rw [← hE.out]; exact hov, hbel⟩
end Go.Proofs.YtfhgnnlhacjnkaaDoor
