import Derived.Test.YtafbghlldlconaaGreatDoorPart10
import Derived.Test.YtafbghlldlconaaGreatDoorPart11
import Derived.Lib.Index
import Derived.Test.YtafbghlldlconaaGreatDoorPart1
import Derived.Test.YtafbghlldlconaaGreatDoorPart2
import Derived.Deep.RegionHeld3
import Derived.BigQuiet
import Derived.Test.YtafbghlldlconaaGreatDoorPart12
import Derived.Test.YtafbghlldlconaaGreatDoorShelf
import Derived.Lib.IndexLaws
/-
  PLAIN LAWS ON PARTS (chapter 20): no program in sight.
-/
namespace Go.Proofs.YtafbghlldlconaaGreatDoor.PT
set_option linter.unusedVariables false
set_option linter.unusedSimpArgs false

def escN (c : UInt8) : List UInt8 := if c = 10 then [37, 48, 65] else if c = 13 then [37, 48, 68] else if c = 34 then [37, 50, 50] else [c]
/-- a name as it is told -/
def nm (l : List UInt8) : List UInt8 := (ends [13, 10] l).flatMap escN
theorem sub1_cons (o : UInt8) (new : List UInt8) (c : UInt8) (r : List UInt8) : sub1 o new (c :: r) = (if c = o then new else [c]) ++ sub1 o new r := by
  rw [show c :: r = [c] ++ r from rfl, sub1_append]
  congr 1
  by_cases h : c = o
  · rw [if_pos h]; simp [sub1, h]
  · rw [if_neg h]; simp [sub1, h]
theorem escN_rep (l : List UInt8) : sub1 34 [37, 50, 50] (sub1 10 [37, 48, 65] (sub1 13 [37, 48, 68] l)) = l.flatMap escN := by
  induction l with
  | nil => rfl
  | cons c r ih =>
    rw [List.flatMap_cons, ← ih, sub1_cons 13, sub1_append, sub1_append]
    congr 1
    unfold escN
    by_cases h13 : c = 13
    · subst h13; decide
    · rw [if_neg h13]
      by_cases h10 : c = 10
      · subst h10; decide
      · by_cases h34 : c = 34
        · subst h34; decide
        · simp [sub1, h10, h13, h34]
theorem escN_len (l : List UInt8) : (l.flatMap escN).length ≤ 3 * l.length := by
  induction l with
  | nil => simp
  | cons c r ih =>
    rw [List.flatMap_cons, List.length_append, List.length_cons]
    have : (escN c).length ≤ 3 := by
      unfold escN
      split
      · simp
      · split
        · simp
        · split <;> simp
    omega
theorem nm_len (l : List UInt8) : (nm l).length ≤ 9 * l.length := by
  have h1 := escN_len (ends [13, 10] l)
  have h2 := ends_len [13, 10] l
  unfold nm
  simp only [List.length_cons, List.length_nil] at h2
  omega
/-- a boundary -/
def fitB (l : List UInt8) : Bool := l.all (fun c => letterB c || decide (c = 45)) && (decide (0 < l.length) && decide (l.length ≤ 70))
def octet : List UInt8 := [97, 112, 112, 108, 105, 99, 97, 116, 105, 111, 110, 47, 111, 99, 116, 101, 116, 45, 115, 116, 114, 101, 97, 109]
def okT (c : UInt8) : Bool := decide (32 ≤ c.toNat) && decide (c.toNat ≤ 126)
/-- a type as it is told -/
def typ (l : List UInt8) : List UInt8 := if l.all okT && !l.isEmpty then l else octet
def head1 : List UInt8 := [67, 111, 110, 116, 101, 110, 116, 45, 68, 105, 115, 112, 111, 115, 105, 116, 105, 111, 110, 58, 32, 102, 111, 114, 109, 45, 100, 97, 116, 97, 59, 32, 110, 97, 109, 101, 61, 34]
def head2 : List UInt8 := [59, 32, 102, 105, 108, 101, 110, 97, 109, 101, 61, 34]
def head3 : List UInt8 := [13, 10, 67, 111, 110, 116, 101, 110, 116, 45, 84, 121, 112, 101, 58, 32]
/-- what a part carries -/
def carr (f : Bool) (v : List UInt8) : List UInt8 := if f then v else ends [13, 10] v
/-- a part -/
def prtP (n v : List UInt8) (f : Bool) (fn t : List UInt8) : List UInt8 :=
  head1 ++ nm n ++ [34] ++ (if f then head2 ++ nm fn ++ [34] ++ head3 ++ typ t else []) ++ [13, 10, 13, 10] ++ carr f v
theorem typ_len (l : List UInt8) : (typ l).length ≤ l.length + 24 := by
  unfold typ
  split
  · omega
  · have : octet.length = 24 := rfl
    omega
theorem fitB_all (s : ByteArray) (k : Nat) (h : k < s.size) : (s.data.toList.take (k + 1)).all (fun c => letterB c || decide (c = 45)) = ((s.data.toList.take k).all (fun c => letterB c || decide (c = 45)) && (letterB s[k] || decide (s[k] = 45))) := by
  rw [take_snoc s k h, List.all_append]; simp
theorem fitB_no (s : ByteArray) (k : Nat) (h : k < s.size) (hn : (letterB s[k] || decide (s[k] = 45)) = false) : fitB s.data.toList = false := by
  unfold fitB
  have : s.data.toList.all (fun c => letterB c || decide (c = 45)) = false := by
    rw [← List.take_append_drop (k + 1) s.data.toList, List.all_append, fitB_all s k h, hn]; simp
  rw [this]; rfl
theorem typ_no (s : ByteArray) (k : Nat) (h : k < s.size) (hn : okT s[k] = false) : typ s.data.toList = octet := by
  unfold typ
  have : s.data.toList.all okT = false := by
    rw [← List.take_append_drop k s.data.toList, List.all_append, drop_cons' s k h, List.all_cons, hn]; simp
  rw [this]; rfl
end Go.Proofs.YtafbghlldlconaaGreatDoor.PT

/-
  parts.Fit, kind, name, carried, part: the walks.
-/
namespace Go.Proofs.YtafbghlldlconaaGreatDoor
set_option linter.unusedVariables false
set_option linter.unusedSimpArgs false
open Go.RowKit PT

theorem str_of20 {s : ByteArray} {l : List UInt8} (h : s.data.toList = l) : Ending.returned (.string s) = .returned (.string ⟨l.toArray⟩) := by
  rw [← h]
theorem take_world20 {Q : Exit → Act → World → Prop} {e : Exit} {a : Act} {W : World} (S : World → Prop) (h : S W) (k : S W → Q e a W) : Q e a W := k h
theorem fit_cases (c : UInt8) (h : (letterB c || decide (c = 45)) = true) : (97 ≤ c.toNat ∧ c.toNat ≤ 122) ∨ (65 ≤ c.toNat ∧ c.toNat ≤ 90) ∨ (48 ≤ c.toNat ∧ c.toNat ≤ 57) ∨ c.toNat = 45 := by
  have : ∀ n : Fin 256, (letterB (UInt8.ofNat n.val) || decide (UInt8.ofNat n.val = 45)) = true → ((97 ≤ n.val ∧ n.val ≤ 122) ∨ (65 ≤ n.val ∧ n.val ≤ 90) ∨ (48 ≤ n.val ∧ n.val ≤ 57) ∨ n.val = 45) := by decide +kernel
  have h' := this ⟨c.toNat, c.toNat_lt⟩
  simp only [UInt8.ofNat_toNat] at h'
  exact h' h
theorem fit_not (c : UInt8) (h : (letterB c || decide (c = 45)) = false) : (c.toNat < 97 ∨ 122 < c.toNat) ∧ (c.toNat < 65 ∨ 90 < c.toNat) ∧ (c.toNat < 48 ∨ 57 < c.toNat) ∧ c.toNat ≠ 45 := by
  have : ∀ n : Fin 256, (letterB (UInt8.ofNat n.val) || decide (UInt8.ofNat n.val = 45)) = false → ((n.val < 97 ∨ 122 < n.val) ∧ (n.val < 65 ∨ 90 < n.val) ∧ (n.val < 48 ∨ 57 < n.val) ∧ n.val ≠ 45) := by decide +kernel
  have h' := this ⟨c.toNat, c.toNat_lt⟩
  simp only [UInt8.ofNat_toNat] at h'
  exact h' h
set_option maxHeartbeats 2000000 in
set_option maxRecDepth 100000 in
theorem partsFit_any (s : ByteArray) (w : World) :
    Calls Tryz.prog 45 #[.string s] w fun e w' => e = .returned (.bool (fitB s.data.toList)) ∧ w = w' := by
  have hpe : s.toList.isEmpty = s.data.toList.isEmpty := by rw [ByteArray.toList_eq]
  go_enter Tryz.func45, Tryz.ntmps45
  by_cases h0 : s.size = 0
  · have hl : s.data.toList = [] := List.length_eq_zero_iff.1 (by rw [size_list]; exact h0)
    rw [hl] at hpe
    have hN := Lib.hid (show fitB s.data.toList = false by rw [hl]; rfl)
    have hpe' : s.toList.isEmpty = true := hpe
    clear hl hpe h0
    go_wp2_with fail
    go_ret
    exact ⟨ret_bool hN.out.symm, rfl⟩
  · have hpe' : s.toList.isEmpty = false := by
      rw [hpe]
      cases hl : s.data.toList with
      | nil => have := congrArg List.length hl; rw [size_list, List.length_nil] at this; omega
      | cons _ _ => rfl
    clear hpe
    by_cases h70 : s.size ≤ 70
    · have h70' : decide ((70 : Int) < (s.size : Int)) = false := by simp; omega
      go_wp2_with fail
      go_loop [14] (fun i => ∃ k : Nat, k ≤ s.size ∧ i = .int .i64 k ∧ Hid ((s.data.toList.take k).all (fun c => letterB c || decide (c = 45)) = true)) (fun i => s.size - (intOf i).toNat)
      case atStart => exact ⟨0, Nat.zero_le _, rfl, Lib.hid rfl⟩
      case round =>
        obtain ⟨k, hk, rfl, hA⟩ := hrel
        by_cases hlt : k < s.size
        · have hT := Lib.hid (fitB_all s k hlt)
          have hNo := Lib.hid (fitB_no s k hlt)
          cases hc : (letterB s[k] || decide (s[k] = 45))
          · have hN := Lib.hid (hNo.out hc)
            obtain ⟨h1, h2, h3, h4⟩ := fit_not s[k] hc
            have h4' : ((s[k].toNat : Int) != 45) = true := by simp only [bne_iff_ne, ne_eq]; omega
            clear hc hT hNo
            rcases h1 with h1 | h1 <;> rcases h2 with h2 | h2 <;> rcases h3 with h3 | h3
            all_goals (try (exfalso; omega))
            all_goals
              (try have a1 : (s[k].toNat : Int) < 97 := by omega)
              (try have a1 : (122 : Int) < (s[k].toNat : Int) := by omega)
              (try have a2 : (s[k].toNat : Int) < 65 := by omega)
              (try have a2 : (90 : Int) < (s[k].toNat : Int) := by omega)
              (try have a3 : (s[k].toNat : Int) < 48 := by omega)
              (try have a3 : (57 : Int) < (s[k].toNat : Int) := by omega)
              go_wp2_with fail
              go_ret
              exact ⟨ret_bool hN.out.symm, rfl⟩
          · have hN := Lib.hid (show (s.data.toList.take (k + 1)).all (fun c => letterB c || decide (c = 45)) = true by rw [hT.out, hA.out, hc]; rfl)
            have hcs := fit_cases s[k] hc
            clear hc hT hNo
            rcases hcs with hc | hc | hc | hc
            all_goals
              (try obtain ⟨hx, hy⟩ := hc)
              (try have hx' : (97 : Int) ≤ (s[k].toNat : Int) := by omega)
              (try have hy' : (s[k].toNat : Int) ≤ (122 : Int) := by omega)
              (try have hx' : (65 : Int) ≤ (s[k].toNat : Int) := by omega)
              (try have hy' : (s[k].toNat : Int) ≤ (90 : Int) := by omega)
              (try have hx' : (48 : Int) ≤ (s[k].toNat : Int) := by omega)
              (try have hy' : (s[k].toNat : Int) ≤ (57 : Int) := by omega)
              go_wp2_with fail
              go_round
              case rel => exact ⟨k + 1, by omega, by go_num, hN⟩
              case measure => simp [intOf]; omega
        · obtain rfl : k = s.size := by omega
          have hN := Lib.hid (show fitB s.data.toList = true by
            unfold fitB
            have := hA.out
            rw [List.take_of_length_le (by rw [size_list]; exact Nat.le_refl _)] at this
            rw [this, size_list, decide_eq_true h70, decide_eq_true (by omega)]; rfl)
          go_wp2_with fail
          go_ret
          exact ⟨ret_bool hN.out.symm, rfl⟩
    · have h70' : (70 : Int) < (s.size : Int) := by omega
      have hN := Lib.hid (show fitB s.data.toList = false by unfold fitB; rw [size_list, decide_eq_false h70]; simp)
      go_wp2_with fail
      go_ret
      exact ⟨ret_bool hN.out.symm, rfl⟩
set_option maxHeartbeats 1000000 in
set_option maxRecDepth 100000 in
theorem kind_any (s : ByteArray) (hs : s.size ≤ 4294967296) (w : World) :
    Calls Tryz.prog 143 #[.string s] w fun e w' => e = .returned (.string ⟨(typ s.data.toList).toArray⟩) ∧ w = w' := by
  have hpe : s.toList.isEmpty = s.data.toList.isEmpty := by rw [ByteArray.toList_eq]
  go_enter Tryz.func143, Tryz.ntmps143
  go_wp2_with fail
  go_loop [6] (fun i => ∃ k : Nat, k ≤ s.size ∧ i = .int .i64 k ∧ Hid ((s.data.toList.take k).all okT = true)) (fun i => s.size - (intOf i).toNat)
  case atStart => exact ⟨0, Nat.zero_le _, rfl, Lib.hid rfl⟩
  case round =>
    obtain ⟨k, hk, rfl, hA⟩ := hrel
    by_cases hlt : k < s.size
    · by_cases h1 : s[k].toNat < 32
      · have h1' : (s[k].toNat : Int) < 32 := by omega
        have hN := Lib.hid (typ_no s k hlt (by unfold okT; rw [decide_eq_false (by omega)]; rfl))
        go_wp2_with fail
        go_ret
        exact ⟨ret_str hN.out.symm, rfl⟩
      · have h1' : decide ((s[k].toNat : Int) < 32) = false := by simp; omega
        by_cases h2 : 126 < s[k].toNat
        · have h2' : (126 : Int) < (s[k].toNat : Int) := by omega
          have hN := Lib.hid (typ_no s k hlt (by unfold okT; rw [decide_eq_false (show ¬ s[k].toNat ≤ 126 by omega), Bool.and_false]))
          go_wp2_with fail
          go_ret
          exact ⟨ret_str hN.out.symm, rfl⟩
        · have h2' : decide ((126 : Int) < (s[k].toNat : Int)) = false := by simp; omega
          have hN := Lib.hid (show (s.data.toList.take (k + 1)).all okT = true by
            rw [take_snoc s k hlt, List.all_append, hA.out]
            unfold okT
            simp; omega)
          go_wp2_with fail
          go_round
          case rel => exact ⟨k + 1, by omega, by go_num, hN⟩
          case measure => simp [intOf]; omega
    · obtain rfl : k = s.size := by omega
      have hA' : s.data.toList.all okT = true := by have := hA.out; rwa [List.take_of_length_le (by rw [size_list]; exact Nat.le_refl _)] at this
      cases he : s.data.toList.isEmpty
      · rw [he] at hpe
        have hN := Lib.hid (show typ s.data.toList = s.data.toList by unfold typ; rw [hA', he]; rfl)
        clear hA' he
        go_wp2_with fail
        go_ret
        exact ⟨by rw [hN.out]; rfl, rfl⟩
      · rw [he] at hpe
        have hN := Lib.hid (show typ s.data.toList = octet by unfold typ; rw [he]; simp)
        clear hA' he
        go_wp2_with fail
        go_ret
        exact ⟨ret_str hN.out.symm, rfl⟩
theorem name_any (s : ByteArray) (hs : s.size ≤ 200000) (w : World) (hT : Tables w) :
    Calls Tryz.prog 142 #[.string s] w fun e w' => e = .returned (.string ⟨(nm s.data.toList).toArray⟩) ∧ Below w.heap.size w w' := by
  have h1 := ends_len [13, 10] s.data.toList
  rw [size_list] at h1
  simp only [List.length_cons, List.length_nil] at h1
  have h2 := sub1_len 13 [37, 48, 68] (ends [13, 10] s.data.toList)
  have h3 := sub1_len 10 [37, 48, 65] (sub1 13 [37, 48, 68] (ends [13, 10] s.data.toList))
  simp only [List.length_cons, List.length_nil] at h2 h3
  have hR := Lib.hid (escN_rep (ends [13, 10] s.data.toList))
  go_enter Tryz.func142, Tryz.ntmps142
  go_wp2_with fail
  refine (pairs_any s (by omega) _ hT).mono ?_
  rintro e w1 ⟨rfl, hb1⟩
  have hT1 := hT.kept hb1
  go_wp2_with fail
  refine (replaceAll_any _ [13] [37, 48, 68] (by rw [size_mk]; omega) (by decide) (by decide) (by decide) _ hT1).mono ?_
  rintro e w2 ⟨rfl, hb2⟩
  rw [rep_one]
  have hT2 := hT1.kept hb2
  go_wp2_with fail
  refine (replaceAll_any _ [10] [37, 48, 65] (by rw [size_mk]; omega) (by decide) (by decide) (by decide) _ hT2).mono ?_
  rintro e w3 ⟨rfl, hb3⟩
  rw [rep_one]
  have hT3 := hT2.kept hb3
  go_wp2_with fail
  refine (replaceAll_any _ [34] [37, 50, 50] (by rw [size_mk]; omega) (by decide) (by decide) (by decide) _ hT3).mono ?_
  rintro e w4 ⟨rfl, hb4⟩
  rw [rep_one]
  go_wp2_with fail
  go_ret
  exact ⟨ret_str hR.out, bs (bs (bs hb1 hb2) hb3) hb4⟩
set_option maxHeartbeats 1000000 in
set_option maxRecDepth 100000 in
theorem carried_any (x : Ent) (hs : x.v.size ≤ 4000000) (w : World) (hT : Tables w) :
    Calls Tryz.prog 144 #[entV x] w fun e w' => e = .returned (.string ⟨(carr x.f x.v.data.toList).toArray⟩) ∧ Below w.heap.size w w' := by
  obtain ⟨n, v, f, fn, t⟩ := x
  unfold entV
  simp only at hs ⊢
  have hb0 := (Below.refl w.heap.size w).alloc (Nat.le_refl _) (.cells #[.string n, .string v, .bool f, .string fn, .string t] 73)
  have hT0 := hT.kept hb0
  cases f
  · go_enter Tryz.func144, Tryz.ntmps144
    go_wp2_with fail
    refine (pairs_any v hs _ hT0).mono ?_
    rintro e w1 ⟨rfl, hb1⟩
    go_wp2_with fail
    go_ret
    exact ⟨rfl, bs hb0 hb1⟩
  · go_enter Tryz.func144, Tryz.ntmps144
    go_wp2_with fail
    go_ret
    exact ⟨rfl, hb0⟩
theorem partS_kept {b : Nat} {x y : Value} {w1 W W' : World} (h : W.cell? ⟨b, 3, none⟩ = some x ∧ W.cell? ⟨b, 4, none⟩ = some y ∧ b < w1.heap.size ∧ Below w1.heap.size w1 W ∧ Tables W) (hb : Below W.heap.size W W') :
    W'.cell? ⟨b, 3, none⟩ = some x ∧ W'.cell? ⟨b, 4, none⟩ = some y ∧ b < w1.heap.size ∧ Below w1.heap.size w1 W' ∧ Tables W' := by
  have hlt : b < W.heap.size := by have := h.2.2.2.1.size; omega
  refine ⟨?_, ?_, h.2.2.1, h.2.2.2.1.trans (hb.mono h.2.2.2.1.size), h.2.2.2.2.kept hb⟩
  · rw [← h.1]; simp only [World.cell?, hb.block b hlt]
  · rw [← h.2.1]; simp only [World.cell?, hb.block b hlt]
theorem partS_drew {b : Nat} {x y : Value} {w1 W : World} (h : W.cell? ⟨b, 3, none⟩ = some x ∧ W.cell? ⟨b, 4, none⟩ = some y ∧ b < w1.heap.size ∧ Below w1.heap.size w1 W ∧ Tables W) :
    W.drew.cell? ⟨b, 3, none⟩ = some x ∧ W.drew.cell? ⟨b, 4, none⟩ = some y ∧ b < w1.heap.size ∧ Below w1.heap.size w1 W.drew ∧ Tables W.drew :=
  partS_kept h ⟨rfl, rfl, rfl, Nat.le_refl _, fun _ _ => rfl⟩
set_option maxHeartbeats 2000000 in
set_option maxRecDepth 100000 in
theorem part_any (x : Ent) (h1 : x.n.size ≤ 2000) (h2 : x.v.size ≤ 2000) (h3 : x.fn.size ≤ 2000) (h4 : x.t.size ≤ 2000) (w : World) (hT : Tables w) :
    Calls Tryz.prog 105 #[entV x] w fun e w' => e = .returned (.string ⟨(prtP x.n.data.toList x.v.data.toList x.f x.fn.data.toList x.t.data.toList).toArray⟩) ∧ Below w.heap.size w w' := by
  obtain ⟨n, v, f, fn, t⟩ := x
  unfold entV
  simp only at h1 h2 h3 h4 ⊢
  have hb0 := (Below.refl w.heap.size w).alloc (Nat.le_refl _) (.cells #[.string n, .string v, .bool f, .string fn, .string t] 73)
  have hn0 := Go.heap_alloc_new w (.cells #[.string n, .string v, .bool f, .string fn, .string t] 73)
  have hs0 : (w.alloc (.cells #[.string n, .string v, .bool f, .string fn, .string t] 73)).heap.size = w.heap.size + 1 := by simp
  have hT0 := hT.kept hb0
  have hnl := nm_len n.data.toList
  rw [size_list] at hnl
  go_enter Tryz.func105, Tryz.ntmps105
  go_wp2_with fail
  refine (name_any n (by omega) _ hT0).mono ?_
  rintro e w1 ⟨rfl, hb1⟩
  have hn1 : w1.heap[w.heap.size]? = some (.cells #[.string n, .string v, .bool f, .string fn, .string t] 73) := by rw [hb1.block _ (by omega), hn0]
  have hT1 := hT0.kept hb1
  have q0 : w1.cell? ⟨w.heap.size, 0, none⟩ = some (.string n) := by simp [World.cell?, hn1]
  have q1 : w1.cell? ⟨w.heap.size, 1, none⟩ = some (.string v) := by simp [World.cell?, hn1]
  have q2 : w1.cell? ⟨w.heap.size, 2, none⟩ = some (.bool f) := by simp [World.cell?, hn1]
  have q3 : w1.cell? ⟨w.heap.size, 3, none⟩ = some (.string fn) := by simp [World.cell?, hn1]
  have q4 : w1.cell? ⟨w.heap.size, 4, none⟩ = some (.string t) := by simp [World.cell?, hn1]
  have hb01 := bs hb0 hb1
  clear hn0 hs0
  cases f
  · go_wp2_with fail
    refine (carried_any ⟨n, v, false, fn, t⟩ (by simp only; omega) _ hT1).mono ?_
    rintro e w2 ⟨rfl, hb2⟩
    have hcl : (carr false v.data.toList).length ≤ 6000 := by
      have := ends_len [13, 10] v.data.toList
      rw [size_list] at this
      simp only [List.length_cons, List.length_nil] at this
      show (ends [13, 10] v.data.toList).length ≤ 6000
      omega
    go_wp2_with fail
    go_ret
    refine ⟨?_, bs hb01 hb2⟩
    refine str_of20 ?_
    unfold prtP head1
    simp
  · have hml := nm_len fn.data.toList
    rw [size_list] at hml
    have htl := typ_len t.data.toList
    rw [size_list] at htl
    have k0 : ¬ 9223372036854775807 < 12 + (nm fn.data.toList).length := by omega
    have k1 : ¬ 9223372036854775807 < 12 + (nm fn.data.toList).length + 1 := by omega
    have k2 : ¬ 9223372036854775807 < 12 + (nm fn.data.toList).length + 1 + 2 := by omega
    have k3 : ¬ 9223372036854775807 < 12 + (nm fn.data.toList).length + 1 + 2 + 14 := by omega
    have k4 : ¬ 9223372036854775807 < 12 + (nm fn.data.toList).length + 1 + 2 + 14 + (typ t.data.toList).length := by omega
    have k5 : ¬ 9223372036854775807 < 38 + (nm n.data.toList).length + 1 + (12 + (nm fn.data.toList).length + 1 + 2 + 14 + (typ t.data.toList).length) := by omega
    have hS1 : w1.cell? ⟨w.heap.size, 3, none⟩ = some (.string fn) ∧ w1.cell? ⟨w.heap.size, 4, none⟩ = some (.string t) ∧ w.heap.size < w1.heap.size ∧ Below w1.heap.size w1 w1 ∧ Tables w1 := ⟨q3, q4, (Array.getElem?_eq_some_iff.1 hn1).1, Below.refl _ _, hT1⟩
    go_wp2_with fail
    go_region_held3 (fun W => W.cell? ⟨w.heap.size, 3, none⟩ = some (.string fn) ∧ W.cell? ⟨w.heap.size, 4, none⟩ = some (.string t) ∧ w.heap.size < w1.heap.size ∧ Below w1.heap.size w1 W ∧ Tables W) (first | assumption | exact partS_drew (by assumption) | exact partS_kept (by assumption) (by assumption)) ((first
      | (go_at_call 142; refine (name_any fn (by omega) _ (by first | assumption | exact (And.right (And.right (And.right (And.right (by assumption)))))) ).mono ?_; rintro e w2 ⟨rfl, hb2⟩)
      | (go_at_call 143; refine (kind_any t (by omega) _).mono ?_; rintro e w2 ⟨rfl, rfl⟩)))
    all_goals
      refine take_world20 (fun W => W.cell? ⟨w.heap.size, 3, none⟩ = some (.string fn) ∧ W.cell? ⟨w.heap.size, 4, none⟩ = some (.string t) ∧ w.heap.size < w1.heap.size ∧ Below w1.heap.size w1 W ∧ Tables W) (by assumption) ?_
      rintro ⟨p3, p4, hlt, hbW, hTW⟩
      have r0 := cellK hbW hlt q0
      have r1 := cellK hbW hlt q1
      have r2 := cellK hbW hlt q2
      go_wp2_with fail
      refine (carried_any ⟨n, v, true, fn, t⟩ (by simp only; omega) _ hTW).mono ?_
      rintro e w5 ⟨rfl, hb5⟩
      have hcl : (carr true v.data.toList).length ≤ 2000 := by
        show v.data.toList.length ≤ 2000
        rw [size_list]; exact h2
      go_wp2_with fail
      go_ret
      refine ⟨?_, bs (bs hb01 hbW) hb5⟩
      refine str_of20 ?_
      unfold prtP head1 head2 head3
      simp
end Go.Proofs.YtafbghlldlconaaGreatDoor

/-
  ref20.Fit, Type, Name, Part: the walks.
-/
namespace Go.Proofs.YtafbghlldlconaaGreatDoor
set_option linter.unusedVariables false
set_option linter.unusedSimpArgs false
open Go.RowKit PT

set_option maxHeartbeats 1000000 in
set_option maxRecDepth 100000 in
theorem refFit_any (s : ByteArray) (hs : s.size ≤ 4294967296) (w : World) :
    Calls Tryz.prog 116 #[.string s] w fun e w' => e = .returned (.bool (fitB s.data.toList)) ∧ w = w' := by
  go_enter Tryz.func116, Tryz.ntmps116
  go_wp2_with fail
  go_loop [3] (fun i => ∃ k : Nat, k ≤ s.size ∧ i = .int .i64 k ∧ Hid ((s.data.toList.take k).all (fun c => letterB c || decide (c = 45)) = true)) (fun i => s.size - (intOf i).toNat)
  case atStart => exact ⟨0, Nat.zero_le _, rfl, Lib.hid rfl⟩
  case round =>
    obtain ⟨k, hk, rfl, hA⟩ := hrel
    by_cases hlt : k < s.size
    · have hT := Lib.hid (fitB_all s k hlt)
      have hNo := Lib.hid (fitB_no s k hlt)
      go_wp2_with fail
      refine (refPlain_any s[k] _).mono ?_
      rintro e w' ⟨rfl, rfl⟩
      cases hl : letterB s[k]
      · by_cases h45 : s[k] = 45
        · have h45' : ((s[k].toNat : Int) != 45) = false := by rw [h45]; rfl
          have hN := Lib.hid (show (s.data.toList.take (k + 1)).all (fun c => letterB c || decide (c = 45)) = true by rw [hT.out, hA.out, decide_eq_true h45]; simp)
          clear hl h45
          go_wp2_with fail
          go_round
          case rel => exact ⟨k + 1, by omega, by go_num, hN⟩
          case measure => simp [intOf]; omega
        · have h45' : ((s[k].toNat : Int) != 45) = true := by
            simp only [bne_iff_ne, ne_eq]
            intro e
            exact h45 (UInt8.toNat_inj.1 (by have : (45 : UInt8).toNat = 45 := rfl; omega))
          have hN := Lib.hid (hNo.out (by rw [hl, decide_eq_false h45]; rfl))
          clear hl h45
          go_wp2_with fail
          go_ret
          exact ⟨ret_bool hN.out.symm, rfl⟩
      · have hN := Lib.hid (show (s.data.toList.take (k + 1)).all (fun c => letterB c || decide (c = 45)) = true by rw [hT.out, hA.out, hl]; rfl)
        clear hl
        go_wp2_with fail
        go_round
        case rel => exact ⟨k + 1, by omega, by go_num, hN⟩
        case measure => simp [intOf]; omega
    · obtain rfl : k = s.size := by omega
      have hI : fitB s.data.toList = (decide (0 < s.size) && decide (s.size ≤ 70)) := by
        unfold fitB
        have := hA.out
        rw [List.take_of_length_le (by rw [size_list]; exact Nat.le_refl _)] at this
        rw [this, size_list]; rfl
      by_cases h0 : 0 < s.size
      · have h0' : (0 : Int) < (s.size : Int) := by omega
        by_cases h70 : s.size ≤ 70
        · have h70' : (s.size : Int) ≤ 70 := by omega
          have hN := Lib.hid (show fitB s.data.toList = true by rw [hI, decide_eq_true h0, decide_eq_true h70]; rfl)
          clear hI
          go_wp2_with fail
          go_ret
          exact ⟨ret_bool hN.out.symm, rfl⟩
        · have h70' : decide ((s.size : Int) ≤ 70) = false := by simp; omega
          have hN := Lib.hid (show fitB s.data.toList = false by rw [hI, decide_eq_false h70]; simp)
          clear hI
          go_wp2_with fail
          go_ret
          exact ⟨ret_bool hN.out.symm, rfl⟩
      · have h0' : decide (0 < s.size) = false := decide_eq_false h0
        have h00 : ¬ (0 < s.size) := h0
        have hN := Lib.hid (show fitB s.data.toList = false by rw [hI, decide_eq_false h0]; rfl)
        clear hI
        go_wp2_with fail
        go_ret
        exact ⟨ret_bool hN.out.symm, rfl⟩
set_option maxHeartbeats 1000000 in
set_option maxRecDepth 100000 in
theorem refType_any (s : ByteArray) (hs : s.size ≤ 4294967296) (w : World) :
    Calls Tryz.prog 52 #[.string s] w fun e w' => e = .returned (.string ⟨(typ s.data.toList).toArray⟩) ∧ w = w' := by
  go_enter Tryz.func52, Tryz.ntmps52
  go_wp2_with fail
  go_loop [3] (fun i => ∃ k : Nat, k ≤ s.size ∧ i = .int .i64 k ∧ Hid ((s.data.toList.take k).all okT = true)) (fun i => s.size - (intOf i).toNat)
  case atStart => exact ⟨0, Nat.zero_le _, rfl, Lib.hid rfl⟩
  case round =>
    obtain ⟨k, hk, rfl, hA⟩ := hrel
    by_cases hlt : k < s.size
    · by_cases h1 : s[k].toNat < 32
      · have h1' : (s[k].toNat : Int) < 32 := by omega
        have hN := Lib.hid (typ_no s k hlt (by unfold okT; rw [decide_eq_false (by omega)]; rfl))
        go_wp2_with fail
        go_ret
        exact ⟨ret_str hN.out.symm, rfl⟩
      · have h1' : decide ((s[k].toNat : Int) < 32) = false := by simp; omega
        by_cases h2 : 126 < s[k].toNat
        · have h2' : (126 : Int) < (s[k].toNat : Int) := by omega
          have hN := Lib.hid (typ_no s k hlt (by unfold okT; rw [decide_eq_false (show ¬ s[k].toNat ≤ 126 by omega), Bool.and_false]))
          go_wp2_with fail
          go_ret
          exact ⟨ret_str hN.out.symm, rfl⟩
        · have h2' : decide ((126 : Int) < (s[k].toNat : Int)) = false := by simp; omega
          have hN := Lib.hid (show (s.data.toList.take (k + 1)).all okT = true by
            rw [take_snoc s k hlt, List.all_append, hA.out]
            unfold okT
            simp; omega)
          go_wp2_with fail
          go_round
          case rel => exact ⟨k + 1, by omega, by go_num, hN⟩
          case measure => simp [intOf]; omega
    · obtain rfl : k = s.size := by omega
      have hA' : s.data.toList.all okT = true := by have := hA.out; rwa [List.take_of_length_le (by rw [size_list]; exact Nat.le_refl _)] at this
      by_cases h0 : s.size = 0
      · have hl : s.data.toList = [] := List.length_eq_zero_iff.1 (by rw [size_list]; exact h0)
        have hN := Lib.hid (show typ s.data.toList = octet by rw [hl]; rfl)
        have h0' : ((s.size : Int) == 0) = true := by rw [beq_iff_eq]; omega
        clear hl h0 hA'
        go_wp2_with fail
        go_ret
        exact ⟨ret_str hN.out.symm, rfl⟩
      · have h0' := intNe (a := (s.size : Int)) (b := 0) (by omega)
        have hN := Lib.hid (show typ s.data.toList = s.data.toList by
          unfold typ
          cases hl : s.data.toList with
          | nil => have := congrArg List.length hl; rw [size_list, List.length_nil] at this; omega
          | cons c r => rw [← hl, hA']; rw [hl]; rfl)
        clear hA'
        go_wp2_with fail
        go_ret
        exact ⟨by rw [hN.out]; rfl, rfl⟩
theorem esc_snoc (s : ByteArray) (k : Nat) (h : k < s.size) : (s.data.toList.take (k + 1)).flatMap escN = (s.data.toList.take k).flatMap escN ++ escN s[k] := by
  rw [take_snoc s k h, List.flatMap_append]; simp
set_option maxHeartbeats 1000000 in
set_option maxRecDepth 100000 in
theorem refName_any (s : ByteArray) (hs : s.size ≤ 200000) (w : World) :
    Calls Tryz.prog 51 #[.string s] w fun e w' => e = .returned (.string ⟨(nm s.data.toList).toArray⟩) ∧ Below w.heap.size w w' := by
  have h1 := ends_len [13, 10] s.data.toList
  rw [size_list] at h1
  simp only [List.length_cons, List.length_nil] at h1
  go_enter Tryz.func51, Tryz.ntmps51
  go_wp2_with fail
  refine (refPairs_any s (by omega) _).mono ?_
  rintro e w1 ⟨rfl, hb1⟩
  have hb1s := hb1.size
  have ht : ∃ t : ByteArray, t = ⟨(ends [13, 10] s.data.toList).toArray⟩ ∧ t.size ≤ 600000 ∧ nm s.data.toList = t.data.toList.flatMap escN := ⟨_, rfl, by rw [size_mk]; omega, rfl⟩
  obtain ⟨t, ht, htz, hR⟩ := ht
  rw [← ht]
  have HR := Lib.hid hR
  clear ht hR h1
  go_wp2_with fail
  go_loopw [5, 4] (fun i v wr => ∃ k : Nat, k ≤ t.size ∧ i = .int .i64 k ∧ OB w1.heap.size ((t.data.toList.take k).flatMap escN) v wr ∧ Below w1.heap.size w1 wr) (fun i _ _ => t.size - (intOf i).toNat)
  case atStart => exact ⟨0, Nat.zero_le _, rfl, OB.nil _ _, Below.refl _ _⟩
  case round =>
    obtain ⟨k, hk, rfl, hown, hbel⟩ := hrel
    have hsz := hbel.size
    have hEl := escN_len (t.data.toList.take k)
    have hEt : (t.data.toList.take k).length ≤ 600000 := by rw [List.length_take, size_list]; omega
    have hL3 : ((t.data.toList.take k).flatMap escN).length + 3 < 70368744177664 := by omega
    have hL1 : ((t.data.toList.take k).flatMap escN).length < 70368744177664 := by omega
    by_cases hlt : k < t.size
    · have hSn := Lib.hid (esc_snoc t k hlt)
      by_cases hc : t[k] = 10
      · have hc1 : ((t[k].toNat : Int) == 10) = true := by rw [hc]; rfl
        have hN := Lib.hid (show (t.data.toList.take (k + 1)).flatMap escN = (t.data.toList.take k).flatMap escN ++ [37, 48, 65] by rw [hSn.out, hc]; rfl)
        clear hc
        go_wp2_with (at_builtin; refine wpList_append_text (t := ⟨#[37, 48, 65]⟩) rfl _ _ rfl rfl rfl hown hL3 hsz ?_; intro v' w2 hown' hb')
        go_roundw
        case rel => exact ⟨k + 1, by omega, by go_num, by rw [hN.out]; exact hown', hbel.trans hb'⟩
        case measure => simp [intOf]; omega
      · have hc1 : ((t[k].toNat : Int) == 10) = false := by
          rw [beq_eq_false_iff_ne]
          intro e
          exact hc (UInt8.toNat_inj.1 (by have : (10 : UInt8).toNat = 10 := rfl; omega))
        have H10 := Lib.hid hc
        clear hc
        by_cases hc : t[k] = 13
        · have hc2 : ((t[k].toNat : Int) == 13) = true := by rw [hc]; rfl
          have hN := Lib.hid (show (t.data.toList.take (k + 1)).flatMap escN = (t.data.toList.take k).flatMap escN ++ [37, 48, 68] by rw [hSn.out, hc]; rfl)
          clear hc
          go_wp2_with (at_builtin; refine wpList_append_text (t := ⟨#[37, 48, 68]⟩) rfl _ _ rfl rfl rfl hown hL3 hsz ?_; intro v' w2 hown' hb')
          go_roundw
          case rel => exact ⟨k + 1, by omega, by go_num, by rw [hN.out]; exact hown', hbel.trans hb'⟩
          case measure => simp [intOf]; omega
        · have hc2 : ((t[k].toNat : Int) == 13) = false := by
            rw [beq_eq_false_iff_ne]
            intro e
            exact hc (UInt8.toNat_inj.1 (by have : (13 : UInt8).toNat = 13 := rfl; omega))
          have H13 := Lib.hid hc
          clear hc
          by_cases hc : t[k] = 34
          · have hc3 : ((t[k].toNat : Int) == 34) = true := by rw [hc]; rfl
            have hN := Lib.hid (show (t.data.toList.take (k + 1)).flatMap escN = (t.data.toList.take k).flatMap escN ++ [37, 50, 50] by rw [hSn.out, hc]; rfl)
            clear hc
            go_wp2_with (at_builtin; refine wpList_append_text (t := ⟨#[37, 50, 50]⟩) rfl _ _ rfl rfl rfl hown hL3 hsz ?_; intro v' w2 hown' hb')
            go_roundw
            case rel => exact ⟨k + 1, by omega, by go_num, by rw [hN.out]; exact hown', hbel.trans hb'⟩
            case measure => simp [intOf]; omega
          · have hc3 : ((t[k].toNat : Int) == 34) = false := by
              rw [beq_eq_false_iff_ne]
              intro e
              exact hc (UInt8.toNat_inj.1 (by have : (34 : UInt8).toNat = 34 := rfl; omega))
            have hN := Lib.hid (show (t.data.toList.take (k + 1)).flatMap escN = (t.data.toList.take k).flatMap escN ++ [t[k]] by
              rw [hSn.out]; unfold escN; rw [if_neg H10.out, if_neg H13.out, if_neg hc])
            clear hc
            go_wp2_with (at_builtin; refine wpList_append_byte rfl _ _ rfl rfl rfl t[k] rfl hown hL1 hsz ?_; intro v' w2 hown' hb')
            go_roundw
            case rel => exact ⟨k + 1, by omega, by go_num, by rw [hN.out]; exact hown', hbel.trans hb'⟩
            case measure => simp [intOf]; omega
    · obtain rfl : k = t.size := by omega
      have hcb := hown.conv
      have hR2 := Lib.hid (show (t.data.toList.take t.size).flatMap escN = nm s.data.toList by rw [HR.out, List.take_of_length_le (by rw [size_list]; exact Nat.le_refl _)])
      go_wp2_with fail
      go_ret
      exact ⟨ret_str hR2.out, bs hb1 hbel⟩
theorem refS_kept {b : Nat} {x y z : Value} {w1 W W' : World} (h : W.cell? ⟨b, 1, none⟩ = some z ∧ W.cell? ⟨b, 3, none⟩ = some x ∧ W.cell? ⟨b, 4, none⟩ = some y ∧ b < w1.heap.size ∧ Below w1.heap.size w1 W) (hb : Below W.heap.size W W') :
    W'.cell? ⟨b, 1, none⟩ = some z ∧ W'.cell? ⟨b, 3, none⟩ = some x ∧ W'.cell? ⟨b, 4, none⟩ = some y ∧ b < w1.heap.size ∧ Below w1.heap.size w1 W' := by
  have hlt : b < W.heap.size := by have := h.2.2.2.2.size; omega
  refine ⟨?_, ?_, ?_, h.2.2.2.1, h.2.2.2.2.trans (hb.mono h.2.2.2.2.size)⟩
  · rw [← h.1]; simp only [World.cell?, hb.block b hlt]
  · rw [← h.2.1]; simp only [World.cell?, hb.block b hlt]
  · rw [← h.2.2.1]; simp only [World.cell?, hb.block b hlt]
theorem refS_drew {b : Nat} {x y z : Value} {w1 W : World} (h : W.cell? ⟨b, 1, none⟩ = some z ∧ W.cell? ⟨b, 3, none⟩ = some x ∧ W.cell? ⟨b, 4, none⟩ = some y ∧ b < w1.heap.size ∧ Below w1.heap.size w1 W) :
    W.drew.cell? ⟨b, 1, none⟩ = some z ∧ W.drew.cell? ⟨b, 3, none⟩ = some x ∧ W.drew.cell? ⟨b, 4, none⟩ = some y ∧ b < w1.heap.size ∧ Below w1.heap.size w1 W.drew :=
  refS_kept h ⟨rfl, rfl, rfl, Nat.le_refl _, fun _ _ => rfl⟩
set_option maxHeartbeats 2000000 in
set_option maxRecDepth 100000 in
theorem refPart_any (x : Ent) (h1 : x.n.size ≤ 2000) (h2 : x.v.size ≤ 2000) (h3 : x.fn.size ≤ 2000) (h4 : x.t.size ≤ 2000) (w : World) :
    Calls Tryz.prog 118 #[entV x] w fun e w' => e = .returned (.string ⟨(prtP x.n.data.toList x.v.data.toList x.f x.fn.data.toList x.t.data.toList).toArray⟩) ∧ Below w.heap.size w w' := by
  obtain ⟨n, v, f, fn, t⟩ := x
  unfold entV
  simp only at h1 h2 h3 h4 ⊢
  have hb0 := (Below.refl w.heap.size w).alloc (Nat.le_refl _) (.cells #[.string n, .string v, .bool f, .string fn, .string t] 73)
  have hn0 := Go.heap_alloc_new w (.cells #[.string n, .string v, .bool f, .string fn, .string t] 73)
  have hs0 : (w.alloc (.cells #[.string n, .string v, .bool f, .string fn, .string t] 73)).heap.size = w.heap.size + 1 := by simp
  have hnl := nm_len n.data.toList
  rw [size_list] at hnl
  go_enter Tryz.func118, Tryz.ntmps118
  go_wp2_with fail
  refine (refName_any n (by omega) _).mono ?_
  rintro e w1 ⟨rfl, hb1⟩
  have hn1 : w1.heap[w.heap.size]? = some (.cells #[.string n, .string v, .bool f, .string fn, .string t] 73) := by rw [hb1.block _ (by omega), hn0]
  have q1 : w1.cell? ⟨w.heap.size, 1, none⟩ = some (.string v) := by simp [World.cell?, hn1]
  have q2 : w1.cell? ⟨w.heap.size, 2, none⟩ = some (.bool f) := by simp [World.cell?, hn1]
  have q3 : w1.cell? ⟨w.heap.size, 3, none⟩ = some (.string fn) := by simp [World.cell?, hn1]
  have q4 : w1.cell? ⟨w.heap.size, 4, none⟩ = some (.string t) := by simp [World.cell?, hn1]
  have hb01 := bs hb0 hb1
  clear hn0 hs0
  cases f
  · have hvl : (ends [13, 10] v.data.toList).length ≤ 6000 := by
      have := ends_len [13, 10] v.data.toList
      rw [size_list] at this
      simp only [List.length_cons, List.length_nil] at this
      omega
    go_wp2_with fail
    refine (refPairs_any v (by omega) _).mono ?_
    rintro e w2 ⟨rfl, hb2⟩
    go_wp2_with fail
    go_ret
    refine ⟨?_, bs hb01 hb2⟩
    refine str_of20 ?_
    unfold prtP head1 carr
    simp
  · have hml := nm_len fn.data.toList
    rw [size_list] at hml
    have htl := typ_len t.data.toList
    rw [size_list] at htl
    have k0 : ¬ 9223372036854775807 < 38 + (nm n.data.toList).length + 1 + 12 := by omega
    have k1 : ¬ 9223372036854775807 < 38 + (nm n.data.toList).length + 1 + 12 + (nm fn.data.toList).length := by omega
    have k2 : ¬ 9223372036854775807 < 38 + (nm n.data.toList).length + 1 + 12 + (nm fn.data.toList).length + 17 := by omega
    have k3 : ¬ 9223372036854775807 < 38 + (nm n.data.toList).length + 1 + 12 + (nm fn.data.toList).length + 17 + (typ t.data.toList).length := by omega
    have k4 : ¬ 9223372036854775807 < 38 + (nm n.data.toList).length + 1 + 12 + (nm fn.data.toList).length + 17 + (typ t.data.toList).length + 4 := by omega
    have k5 : ¬ 9223372036854775807 < 38 + (nm n.data.toList).length + 1 + 12 + (nm fn.data.toList).length + 17 + (typ t.data.toList).length + 4 + v.size := by omega
    have hS1 : w1.cell? ⟨w.heap.size, 1, none⟩ = some (.string v) ∧ w1.cell? ⟨w.heap.size, 3, none⟩ = some (.string fn) ∧ w1.cell? ⟨w.heap.size, 4, none⟩ = some (.string t) ∧ w.heap.size < w1.heap.size ∧ Below w1.heap.size w1 w1 := ⟨q1, q3, q4, (Array.getElem?_eq_some_iff.1 hn1).1, Below.refl _ _⟩
    go_wp2_with fail
    go_region_held3 (fun W => W.cell? ⟨w.heap.size, 1, none⟩ = some (.string v) ∧ W.cell? ⟨w.heap.size, 3, none⟩ = some (.string fn) ∧ W.cell? ⟨w.heap.size, 4, none⟩ = some (.string t) ∧ w.heap.size < w1.heap.size ∧ Below w1.heap.size w1 W) (first | assumption | exact refS_drew (by assumption) | exact refS_kept (by assumption) (by assumption)) ((first
      | (go_at_call 51; refine (refName_any fn (by omega) _).mono ?_; rintro e w2 ⟨rfl, hb2⟩)
      | (go_at_call 52; refine (refType_any t (by omega) _).mono ?_; rintro e w2 ⟨rfl, rfl⟩)))
    all_goals
      refine take_world20 (fun W => W.cell? ⟨w.heap.size, 1, none⟩ = some (.string v) ∧ W.cell? ⟨w.heap.size, 3, none⟩ = some (.string fn) ∧ W.cell? ⟨w.heap.size, 4, none⟩ = some (.string t) ∧ w.heap.size < w1.heap.size ∧ Below w1.heap.size w1 W) (by assumption) ?_
      rintro ⟨p1, p3, p4, hlt, hbW⟩
      go_wp2_with fail
      go_ret
      refine ⟨?_, bs hb01 hbW⟩
      refine str_of20 ?_
      unfold prtP head1 head2 head3 carr
      simp
end Go.Proofs.YtafbghlldlconaaGreatDoor

/-
  ref20.find; slices.ContainsFunc over entries; parts.Clear, Choose, ref20.Clear, Choose: the walks.
-/
namespace Go.Proofs.YtafbghlldlconaaGreatDoor
set_option linter.unusedVariables false
set_option linter.unusedSimpArgs false
open Go.RowKit PT

/-- the first place of a text, from a place on -/
def fnd (l t : List UInt8) (from_ : Nat) : Int := if Lib.index (l.drop from_) t = -1 then -1 else (from_ : Int) + Lib.index (l.drop from_) t
theorem occ_at (s t : ByteArray) (f j : Nat) (h : f + j + t.size ≤ s.size) : Lib.occAt (s.data.toList.drop f) t.data.toList j = decide (s.extract (f + j) (f + j + t.size) = t) := by
  have e : (s.extract (f + j) (f + j + t.size)).data.toList = (s.data.toList.drop (f + j)).take t.size := by
    rw [Lib.extract_data, show f + j + t.size - (f + j) = t.size by omega]
  unfold Lib.occAt
  rw [List.drop_drop, Bool.eq_iff_iff, decide_eq_true_iff, List.isPrefixOf_iff_prefix, List.prefix_iff_eq_take, size_list]
  constructor
  · intro h
    apply ByteArray.ext
    apply Array.toList_inj.1
    rw [e, ← h]
  · intro h
    rw [← e, h]
set_option maxHeartbeats 1000000 in
set_option maxRecDepth 100000 in
theorem find_any (s t : ByteArray) (f : Nat) (hs : s.size ≤ 1000000000) (ht : 1 ≤ t.size) (ht2 : t.size ≤ 1000000000) (hf : f ≤ s.size) (w : World) :
    Calls Tryz.prog 117 #[.string s, .string t, .int .i64 f] w fun e w' => e = .returned (.int .i64 (fnd s.data.toList t.data.toList f)) ∧ Below w.heap.size w w' := by
  have htn : t.data.toList ≠ [] := by
    intro e
    have := congrArg List.length e
    rw [size_list, List.length_nil] at this
    omega
  go_enter Tryz.func117, Tryz.ntmps117
  go_wp2_with fail
  go_loopw [7] (fun i wr => ∃ j : Nat, f + j ≤ s.size + 1 ∧ i = .int .i64 ((f + j : Nat) : Int) ∧ Hid (Lib.NoOcc (s.data.toList.drop f) t.data.toList j) ∧ Below w.heap.size w wr) (fun i _ => s.size + 1 - (intOf i).toNat)
  case atStart => exact ⟨0, by omega, by simp, Lib.hid (fun _ h => absurd h (Nat.not_lt_zero _)), Below.refl _ _⟩
  case round =>
    obtain ⟨j, hj, rfl, hNo, hbel⟩ := hrel
    by_cases hlt : f + j + t.size ≤ s.size
    · have hlt' : ((f : Int) + (j : Int)) + (t.size : Int) ≤ (s.size : Int) := by omega
      have hO := Lib.hid (occ_at s t f j hlt)
      by_cases he : s.extract (f + j) (f + j + t.size) = t
      · have hR := Lib.hid (show fnd s.data.toList t.data.toList f = ((f + j : Nat) : Int) by
          unfold fnd
          rw [Lib.index_hit hNo.out (by rw [List.length_drop, size_list]; omega) (by rw [hO.out, he]; exact decide_eq_true rfl), if_neg (by omega)]
          omega)
        go_wp2_with fail
        go_ret
        exact ⟨ret_int hR.out.symm, hbel⟩
      · have hN := Lib.hid (show Lib.NoOcc (s.data.toList.drop f) t.data.toList (j + 1) by
          intro k hk
          by_cases e : k = j
          · rw [e, hO.out]; exact decide_eq_false he
          · exact hNo.out k (by omega))
        have hE : ((s.extract (f + j) (f + j + t.size)).toList == t.toList) = false := by
          rw [beq_eq_false_iff_ne, ByteArray.toList_eq, ByteArray.toList_eq]
          intro e
          exact he (ByteArray.ext (Array.toList_inj.1 e))
        go_wp2_with fail
        go_roundw
        case rel => exact ⟨j + 1, by omega, by go_num, hN, hbel⟩
        case measure => simp [intOf]; omega
    · have hlt' : decide (((f : Int) + (j : Int)) + (t.size : Int) ≤ (s.size : Int)) = false := by simp; omega
      have hR := Lib.hid (show fnd s.data.toList t.data.toList f = -1 by
        unfold fnd
        rw [Lib.index_past htn hNo.out (by rw [List.length_drop, size_list, size_list]; omega), if_pos rfl])
      go_wp2_with fail
      go_ret
      exact ⟨ret_int hR.out.symm, hbel⟩
set_option maxHeartbeats 1000000 in
set_option maxRecDepth 100000 in
theorem indexFuncE_any (es : List Ent) (f : Ent → Bool) (u : Value) (g : Nat) (lb : Array Value) (eg : ∀ args w, (callFunc g args).run Tryz.prog w = .ok (.enter g args) w) (hl : es.length ≤ 1000000000) (w : World) (hU : Ents es u w)
    (hp : ∀ W, Below w.heap.size w W → ∀ x ∈ es, Calls Tryz.prog g (#[entV x] ++ lb) W fun e w' => e = .returned (.bool (f x)) ∧ Below W.heap.size W w') :
    Calls Tryz.prog 141 #[u, .func (.func g) #[] lb] w fun e w' => (∃ z : Int, e = .returned (.int .i64 z) ∧ decide (0 ≤ z) = es.any f) ∧ Below w.heap.size w w' := by
  obtain ⟨a, cap, rfl⟩ := hU.len
  go_enter Tryz.func141, Tryz.ntmps141
  go_wp2_with fail
  go_loopw [8] (fun i wr => ∃ k : Nat, k ≤ es.length ∧ i = .int .i64 k ∧ Hid ((es.take k).any f = false) ∧ Below w.heap.size w wr) (fun i _ => es.length - (intOf i).toNat)
  case atStart => exact ⟨0, Nat.zero_le _, rfl, Lib.hid rfl, Below.refl _ _⟩
  case round =>
    obtain ⟨k, hk, rfl, hA, hbel⟩ := hrel
    by_cases hlt : k < es.length
    · obtain ⟨b, o, cap', hv, hb, hc0, hc1, hc2, hc3, hc4⟩ := (hU.kept hbel).five hlt
      cases hv
      have hT := Lib.hid (List.take_succ_eq_append_getElem hlt)
      have hM := List.getElem_mem hlt
      have hcall := hp wr hbel es[k] hM
      generalize es[k] = x at *
      unfold entV at hcall
      have HC := Lib.hid hcall
      clear hcall
      go_wp2_with fail
      refine HC.out.mono ?_
      rintro e w2 ⟨rfl, hb2⟩
      cases hf : f x
      · have hN := Lib.hid (show (es.take (k + 1)).any f = false by rw [hT.out, List.any_append, hA.out]; simp [hf])
        clear hf
        go_wp2_with fail
        go_roundw
        case rel => exact ⟨k + 1, by omega, by go_num, hN, hbel.trans (hb2.mono hbel.size)⟩
        case measure => simp [intOf]; omega
      · have hN := Lib.hid (show es.any f = true from List.any_eq_true.2 ⟨x, hM, hf⟩)
        clear hf
        go_wp2_with fail
        go_ret
        exact ⟨⟨k, rfl, by rw [hN.out]; simp⟩, hbel.trans (hb2.mono hbel.size)⟩
    · obtain rfl : k = es.length := by omega
      have hN := Lib.hid (show es.any f = false by have := hA.out; rwa [List.take_of_length_le (Nat.le_refl _)] at this)
      go_wp2_with fail
      go_ret
      exact ⟨⟨-1, rfl, by rw [hN.out]; decide⟩, hbel⟩
set_option maxHeartbeats 1000000 in
set_option maxRecDepth 100000 in
theorem containsFuncE_any (es : List Ent) (f : Ent → Bool) (u : Value) (g : Nat) (lb : Array Value) (eg : ∀ args w, (callFunc g args).run Tryz.prog w = .ok (.enter g args) w) (hl : es.length ≤ 1000000000) (w : World) (hU : Ents es u w)
    (hp : ∀ W, Below w.heap.size w W → ∀ x ∈ es, Calls Tryz.prog g (#[entV x] ++ lb) W fun e w' => e = .returned (.bool (f x)) ∧ Below W.heap.size W w') :
    Calls Tryz.prog 103 #[u, .func (.func g) #[] lb] w fun e w' => e = .returned (.bool (es.any f)) ∧ Below w.heap.size w w' := by
  go_enter Tryz.func103, Tryz.ntmps103
  go_wp2_with fail
  refine (indexFuncE_any es f u g lb eg hl _ hU hp).mono ?_
  rintro e w2 ⟨⟨z, rfl, hz⟩, hb2⟩
  have HZ := Lib.hid hz
  clear hz
  go_wp2_with fail
  go_ret
  exact ⟨ret_bool HZ.out, hb2⟩
def partE (x : Ent) : List UInt8 := prtP x.n.data.toList x.v.data.toList x.f x.fn.data.toList x.t.data.toList
theorem partE_len (x : Ent) (h1 : x.n.size ≤ 2000) (h2 : x.v.size ≤ 2000) (h3 : x.fn.size ≤ 2000) (h4 : x.t.size ≤ 2000) : (partE x).length ≤ 60000 := by
  obtain ⟨n, v, f, fn, t⟩ := x
  simp only at h1 h2 h3 h4
  have a1 := nm_len n.data.toList
  have a2 := nm_len fn.data.toList
  have a3 := typ_len t.data.toList
  have a4 := ends_len [13, 10] v.data.toList
  rw [size_list] at a1 a2 a3 a4
  simp only [List.length_cons, List.length_nil] at a4
  have b1 : head1.length = 38 := rfl
  have b2 : head2.length = 12 := rfl
  have b3 : head3.length = 16 := rfl
  have hv : v.data.toList.length ≤ 2000 := by rw [size_list]; exact h2
  unfold partE prtP carr
  cases f
  · simp only [List.length_append, List.length_cons, List.length_nil, Bool.false_eq_true, if_false]
    omega
  · simp only [List.length_append, List.length_cons, List.length_nil, if_true]
    omega
/-- what is held of the world while a part is made and searched -/
theorem clrS_kept {e B : Nat} {c0 c1 c2 c3 c4 y : Value} {w1 W W' : World} (h : W.cell? ⟨e, 0, none⟩ = some c0 ∧ W.cell? ⟨e, 1, none⟩ = some c1 ∧ W.cell? ⟨e, 2, none⟩ = some c2 ∧ W.cell? ⟨e, 3, none⟩ = some c3 ∧ W.cell? ⟨e, 4, none⟩ = some c4 ∧ W.cell? ⟨B, 0, none⟩ = some y ∧ e < w1.heap.size ∧ B < w1.heap.size ∧ Below w1.heap.size w1 W ∧ Tables W) (hb : Below W.heap.size W W') :
    W'.cell? ⟨e, 0, none⟩ = some c0 ∧ W'.cell? ⟨e, 1, none⟩ = some c1 ∧ W'.cell? ⟨e, 2, none⟩ = some c2 ∧ W'.cell? ⟨e, 3, none⟩ = some c3 ∧ W'.cell? ⟨e, 4, none⟩ = some c4 ∧ W'.cell? ⟨B, 0, none⟩ = some y ∧ e < w1.heap.size ∧ B < w1.heap.size ∧ Below w1.heap.size w1 W' ∧ Tables W' := by
  obtain ⟨h0, h1, h2, h3, h4, hy, he, hB, hbe, hT⟩ := h
  have hs := hbe.size
  exact ⟨cellK hb (by omega) h0, cellK hb (by omega) h1, cellK hb (by omega) h2, cellK hb (by omega) h3, cellK hb (by omega) h4, cellK hb (by omega) hy, he, hB, hbe.trans (hb.mono hs), hT.kept hb⟩
theorem clrS_drew {e B : Nat} {c0 c1 c2 c3 c4 y : Value} {w1 W : World} (h : W.cell? ⟨e, 0, none⟩ = some c0 ∧ W.cell? ⟨e, 1, none⟩ = some c1 ∧ W.cell? ⟨e, 2, none⟩ = some c2 ∧ W.cell? ⟨e, 3, none⟩ = some c3 ∧ W.cell? ⟨e, 4, none⟩ = some c4 ∧ W.cell? ⟨B, 0, none⟩ = some y ∧ e < w1.heap.size ∧ B < w1.heap.size ∧ Below w1.heap.size w1 W ∧ Tables W) :
    W.drew.cell? ⟨e, 0, none⟩ = some c0 ∧ W.drew.cell? ⟨e, 1, none⟩ = some c1 ∧ W.drew.cell? ⟨e, 2, none⟩ = some c2 ∧ W.drew.cell? ⟨e, 3, none⟩ = some c3 ∧ W.drew.cell? ⟨e, 4, none⟩ = some c4 ∧ W.drew.cell? ⟨B, 0, none⟩ = some y ∧ e < w1.heap.size ∧ B < w1.heap.size ∧ Below w1.heap.size w1 W.drew ∧ Tables W.drew :=
  clrS_kept h ⟨rfl, rfl, rfl, Nat.le_refl _, fun _ _ => rfl⟩
theorem clrS_tab {e B : Nat} {c0 c1 c2 c3 c4 y : Value} {w1 W : World} (h : W.cell? ⟨e, 0, none⟩ = some c0 ∧ W.cell? ⟨e, 1, none⟩ = some c1 ∧ W.cell? ⟨e, 2, none⟩ = some c2 ∧ W.cell? ⟨e, 3, none⟩ = some c3 ∧ W.cell? ⟨e, 4, none⟩ = some c4 ∧ W.cell? ⟨B, 0, none⟩ = some y ∧ e < w1.heap.size ∧ B < w1.heap.size ∧ Below w1.heap.size w1 W ∧ Tables W) : Tables W := h.2.2.2.2.2.2.2.2.2
set_option maxHeartbeats 2000000 in
set_option maxRecDepth 100000 in
theorem clearFn_any (x : Ent) (h1 : x.n.size ≤ 2000) (h2 : x.v.size ≤ 2000) (h3 : x.fn.size ≤ 2000) (h4 : x.t.size ≤ 2000) (b : ByteArray) (B : Nat) (w : World) (hT : Tables w) (hB : B < w.heap.size) (hc : w.cell? ⟨B, 0, none⟩ = some (.string b)) :
    Calls Tryz.prog 104 #[entV x, .pointer (some ⟨B, 0, none⟩)] w fun e w' => e = .returned (.bool (Lib.contains (partE x) b.data.toList)) ∧ Below w.heap.size w w' := by
  have hpl := partE_len x h1 h2 h3 h4
  obtain ⟨n, v, f, fn, t⟩ := x
  unfold entV
  simp only at h1 h2 h3 h4 ⊢
  have hb0 := (Below.refl w.heap.size w).alloc (Nat.le_refl _) (.cells #[.string n, .string v, .bool f, .string fn, .string t] 73)
  have hT0 := hT.kept hb0
  have hc0 := cellK hb0 hB hc
  have hs0 : (w.alloc (.cells #[.string n, .string v, .bool f, .string fn, .string t] 73)).heap.size = w.heap.size + 1 := by simp
  have hn0 := Go.heap_alloc_new w (.cells #[.string n, .string v, .bool f, .string fn, .string t] 73)
  go_enter Tryz.func104, Tryz.ntmps104
  go_wp2_with fail
  generalize hW0 : w.alloc (.cells #[.string n, .string v, .bool f, .string fn, .string t] 73) = W0 at *
  have q0 : W0.cell? ⟨w.heap.size, 0, none⟩ = some (.string n) := by simp [World.cell?, hn0]
  have q1 : W0.cell? ⟨w.heap.size, 1, none⟩ = some (.string v) := by simp [World.cell?, hn0]
  have q2 : W0.cell? ⟨w.heap.size, 2, none⟩ = some (.bool f) := by simp [World.cell?, hn0]
  have q3 : W0.cell? ⟨w.heap.size, 3, none⟩ = some (.string fn) := by simp [World.cell?, hn0]
  have q4 : W0.cell? ⟨w.heap.size, 4, none⟩ = some (.string t) := by simp [World.cell?, hn0]
  have hS1 : W0.cell? ⟨w.heap.size, 0, none⟩ = some (.string n) ∧ W0.cell? ⟨w.heap.size, 1, none⟩ = some (.string v) ∧ W0.cell? ⟨w.heap.size, 2, none⟩ = some (.bool f) ∧ W0.cell? ⟨w.heap.size, 3, none⟩ = some (.string fn) ∧ W0.cell? ⟨w.heap.size, 4, none⟩ = some (.string t) ∧ W0.cell? ⟨B, 0, none⟩ = some (.string b) ∧ w.heap.size < W0.heap.size ∧ B < W0.heap.size ∧ Below W0.heap.size W0 W0 ∧ Tables W0 := ⟨q0, q1, q2, q3, q4, hc0, by omega, by omega, Below.refl _ _, hT0⟩
  clear hn0 hs0 hW0
  go_region_held3 (fun W => W.cell? ⟨w.heap.size, 0, none⟩ = some (.string n) ∧ W.cell? ⟨w.heap.size, 1, none⟩ = some (.string v) ∧ W.cell? ⟨w.heap.size, 2, none⟩ = some (.bool f) ∧ W.cell? ⟨w.heap.size, 3, none⟩ = some (.string fn) ∧ W.cell? ⟨w.heap.size, 4, none⟩ = some (.string t) ∧ W.cell? ⟨B, 0, none⟩ = some (.string b) ∧ w.heap.size < W0.heap.size ∧ B < W0.heap.size ∧ Below W0.heap.size W0 W ∧ Tables W) (first | assumption | exact clrS_drew (by assumption) | exact clrS_kept (by assumption) (by assumption)) ((first
    | (go_at_call 105; refine (part_any ⟨n, v, f, fn, t⟩ h1 h2 h3 h4 _ (clrS_tab (by assumption))).mono ?_; rintro e w2 ⟨rfl, hb2⟩)
    | (go_at_call 49; refine (Tryz.strings_Contains_shaped _ _ _ (Tables.shape (clrS_tab (by assumption))) (by rw [size_mk]; exact Nat.lt_of_le_of_lt hpl (by decide))).mono ?_; rintro e w3 ⟨rfl, rfl⟩)))
  all_goals
    refine take_world20 (fun W => W.cell? ⟨w.heap.size, 0, none⟩ = some (.string n) ∧ W.cell? ⟨w.heap.size, 1, none⟩ = some (.string v) ∧ W.cell? ⟨w.heap.size, 2, none⟩ = some (.bool f) ∧ W.cell? ⟨w.heap.size, 3, none⟩ = some (.string fn) ∧ W.cell? ⟨w.heap.size, 4, none⟩ = some (.string t) ∧ W.cell? ⟨B, 0, none⟩ = some (.string b) ∧ w.heap.size < W0.heap.size ∧ B < W0.heap.size ∧ Below W0.heap.size W0 W ∧ Tables W) (by assumption) ?_
    rintro ⟨_, _, _, _, _, _, _, _, hbW, hTW⟩
    go_wp2_with fail
    go_ret
    exact ⟨rfl, bs hb0 hbW⟩
end Go.Proofs.YtafbghlldlconaaGreatDoor

/-
  parts.Clear, Choose, ref20.Clear, Choose: the walks.
-/
namespace Go.Proofs.YtafbghlldlconaaGreatDoor
set_option linter.unusedVariables false
set_option linter.unusedSimpArgs false
open Go.RowKit PT

/-- no text of an entry is long -/
def Brief (x : Ent) : Prop := x.n.size ≤ 2000 ∧ x.v.size ≤ 2000 ∧ x.fn.size ≤ 2000 ∧ x.t.size ≤ 2000
def clearB (es : List Ent) (b : List UInt8) : Bool := fitB b && !es.any (fun x => Lib.contains (partE x) b)
set_option maxHeartbeats 2000000 in
set_option maxRecDepth 100000 in
theorem clear_any (es : List Ent) (u : Value) (b : ByteArray) (hl : es.length ≤ 1000000) (hS : ∀ x ∈ es, Brief x) (w : World) (hU : Ents es u w) (hT : Tables w) :
    Calls Tryz.prog 65 #[u, .string b] w fun e w' => e = .returned (.bool (clearB es b.data.toList)) ∧ Below w.heap.size w w' := by
  have hb0 := (Below.refl w.heap.size w).alloc (Nat.le_refl _) (.cells #[.string b] 9)
  have hn0 := Go.heap_alloc_new w (.cells #[.string b] 9)
  have hs0 : (w.alloc (.cells #[.string b] 9)).heap.size = w.heap.size + 1 := by simp
  have hT0 := hT.kept hb0
  have hU0 := hU.kept hb0
  have hc0 : (w.alloc (.cells #[.string b] 9)).cell? ⟨w.heap.size, 0, none⟩ = some (.string b) := by simp only [World.cell?, hn0]; rfl
  have hI : clearB es b.data.toList = (fitB b.data.toList && !es.any (fun x => Lib.contains (partE x) b.data.toList)) := rfl
  obtain ⟨a, cap, rfl⟩ := hU.len
  go_enter Tryz.func65, Tryz.ntmps65
  go_wp2_with fail
  refine (partsFit_any b _).mono ?_
  rintro e w' ⟨rfl, rfl⟩
  cases hf : fitB b.data.toList
  · have hN := Lib.hid (show clearB es b.data.toList = false by rw [hI, hf]; rfl)
    clear hI hf
    go_wp2_with fail
    go_ret
    exact ⟨ret_bool hN.out.symm, hb0⟩
  · have hN := Lib.hid (show clearB es b.data.toList = !es.any (fun x => Lib.contains (partE x) b.data.toList) by rw [hI, hf]; rfl)
    clear hI hf
    have hp : ∀ W, Below (w.alloc (.cells #[.string b] 9)).heap.size (w.alloc (.cells #[.string b] 9)) W → ∀ x ∈ es, Calls Tryz.prog 104 (#[entV x] ++ #[.pointer (some ⟨w.heap.size, 0, none⟩)]) W fun e w' => e = .returned (.bool (Lib.contains (partE x) b.data.toList)) ∧ Below W.heap.size W w' := by
      intro W hW x hx
      have hx' := hS x hx
      have hWs := hW.size
      exact clearFn_any x hx'.1 hx'.2.1 hx'.2.2.1 hx'.2.2.2 b w.heap.size W (hT0.kept hW) (by omega) (cellK hW (by omega) hc0)
    go_wp2_with fail
    refine (containsFuncE_any es (fun x => Lib.contains (partE x) b.data.toList) _ 104 #[.pointer (some ⟨w.heap.size, 0, none⟩)] (enters_of Tryz.func104 (by kernel_rfl) rfl) (by omega) _ hU0 hp).mono ?_
    rintro e w2 ⟨rfl, hb2⟩
    go_wp2_with fail
    go_ret
    exact ⟨ret_bool hN.out.symm, bs hb0 hb2⟩
theorem fnd_contains (l t : List UInt8) : decide (0 ≤ fnd l t 0) = Lib.contains l t := by
  unfold fnd Lib.contains
  rw [List.drop_zero]
  have := Lib.index_ge l t
  rw [Bool.eq_iff_iff, decide_eq_true_iff, decide_eq_true_iff]
  split <;> constructor <;> intro h <;> omega
set_option maxHeartbeats 2000000 in
set_option maxRecDepth 100000 in
theorem refClear_any (es : List Ent) (u : Value) (b : ByteArray) (hb : b.size ≤ 1000000) (hl : es.length ≤ 1000000) (hS : ∀ x ∈ es, Brief x) (w : World) (hU : Ents es u w) :
    Calls Tryz.prog 78 #[u, .string b] w fun e w' => e = .returned (.bool (clearB es b.data.toList)) ∧ Below w.heap.size w w' := by
  have hI : clearB es b.data.toList = (fitB b.data.toList && !es.any (fun x => Lib.contains (partE x) b.data.toList)) := rfl
  obtain ⟨a, cap, rfl⟩ := hU.len
  go_enter Tryz.func78, Tryz.ntmps78
  go_wp2_with fail
  refine (refFit_any b (by omega) _).mono ?_
  rintro e w' ⟨rfl, rfl⟩
  cases hf : fitB b.data.toList
  · have hN := Lib.hid (show clearB es b.data.toList = false by rw [hI, hf]; rfl)
    clear hI hf
    go_wp2_with fail
    go_ret
    exact ⟨ret_bool hN.out.symm, Below.refl _ _⟩
  · have hN := Lib.hid (show clearB es b.data.toList = !es.any (fun x => Lib.contains (partE x) b.data.toList) by rw [hI, hf]; rfl)
    have hb1 : 1 ≤ b.size := by
      unfold fitB at hf
      rw [Bool.and_eq_true, Bool.and_eq_true, decide_eq_true_eq, size_list] at hf
      omega
    clear hI hf
    go_wp2_with fail
    go_loopw [5] (fun i wr => ∃ k : Nat, k ≤ es.length ∧ i = .int .i64 k ∧ Hid ((es.take k).any (fun x => Lib.contains (partE x) b.data.toList) = false) ∧ Below w.heap.size w wr) (fun i _ => es.length - (intOf i).toNat)
    case atStart => exact ⟨0, Nat.zero_le _, rfl, Lib.hid rfl, Below.refl _ _⟩
    case round =>
      obtain ⟨k, hk, rfl, hA, hbel⟩ := hrel
      by_cases hlt : k < es.length
      · obtain ⟨bb, o, cap', hv, hbb, hc0, hc1, hc2, hc3, hc4⟩ := (hU.kept hbel).five hlt
        cases hv
        have hT := Lib.hid (List.take_succ_eq_append_getElem hlt)
        have hM := Lib.hid (List.getElem_mem hlt)
        have hSk := hS es[k] (List.getElem_mem hlt)
        generalize es[k] = x at *
        have hpl := partE_len x hSk.1 hSk.2.1 hSk.2.2.1 hSk.2.2.2
        go_wp2_with fail
        refine (refPart_any x hSk.1 hSk.2.1 hSk.2.2.1 hSk.2.2.2 _).mono ?_
        rintro e w2 ⟨rfl, hb2⟩
        go_wp2_with fail
        refine (find_any ⟨(partE x).toArray⟩ b 0 (by rw [size_mk]; omega) hb1 (by omega) (Nat.zero_le _) _).mono ?_
        rintro e w3 ⟨rfl, hb3⟩
        have hFc := fnd_contains (partE x) b.data.toList
        have hb23 := bs hb2 hb3
        have hge : -1 ≤ fnd (partE x) b.data.toList 0 := by
          unfold fnd
          have := Lib.index_ge ((partE x).drop 0) b.data.toList
          split <;> omega
        rw [show fnd (ByteArray.mk (partE x).toArray).data.toList b.data.toList 0 = fnd (partE x) b.data.toList 0 from rfl]
        generalize fnd (partE x) b.data.toList 0 = z at *
        cases hq : Lib.contains (partE x) b.data.toList
        · have hN2 := Lib.hid (show (es.take (k + 1)).any (fun x => Lib.contains (partE x) b.data.toList) = false by rw [hT.out, List.any_append, hA.out]; simp [hq])
          rw [hq] at hFc
          clear hq
          go_wp2_with fail
          go_roundw
          case rel => exact ⟨k + 1, by omega, by go_num, hN2, hbel.trans (hb23.mono hbel.size)⟩
          case measure => simp [intOf]; omega
        · have hN2 := Lib.hid (show clearB es b.data.toList = false by rw [hN.out, List.any_eq_true.2 ⟨x, hM.out, hq⟩]; rfl)
          rw [hq] at hFc
          clear hq
          go_wp2_with fail
          go_ret
          exact ⟨ret_bool hN2.out.symm, hbel.trans (hb23.mono hbel.size)⟩
      · obtain rfl : k = es.length := by omega
        have hN2 := Lib.hid (show clearB es b.data.toList = true by rw [hN.out]; have := hA.out; rw [List.take_of_length_le (Nat.le_refl _)] at this; rw [this]; rfl)
        go_wp2_with fail
        go_ret
        exact ⟨ret_bool hN2.out.symm, hbel⟩
/-- the first boundary that may be, among eight -/
def chosen (es : List Ent) (X : List (List UInt8)) : Option (List UInt8) := (X.take 8).find? (fun x => clearB es x)
def chV (o : Option (List UInt8)) : Value := match o with
  | some x => .tuple #[.string ⟨x.toArray⟩, .int .i64 0]
  | none => .tuple #[.string ⟨#[]⟩, .int .i64 10]
theorem some_bytes20 (x : List UInt8) : ∃ P : ByteArray, x = P.data.toList := ⟨⟨x.toArray⟩, rfl⟩
theorem txt_of20 (P : ByteArray) : txt P.data.toList = .string P := rfl
theorem chosen_hit (es : List Ent) (X : List (List UInt8)) (k : Nat) (hk : k < X.length) (h8 : k < 8) (hno : ∀ x ∈ X.take k, clearB es x = false) (h : clearB es X[k] = true) : chosen es X = some X[k] := by
  unfold chosen
  have e : X.take 8 = X.take k ++ (X.drop k).take (8 - k) := by
    rw [← List.take_add]; congr 1; omega
  rw [e, List.find?_append]
  have h1 : (X.take k).find? (fun x => clearB es x) = none := by
    rw [List.find?_eq_none]
    intro x hx
    rw [hno x hx]; exact Bool.false_ne_true
  rw [h1, List.drop_eq_getElem_cons hk, show 8 - k = (7 - k) + 1 by omega, List.take_succ_cons, List.find?_cons_of_pos h]
  rfl
theorem chosen_none (es : List Ent) (X : List (List UInt8)) (hno : ∀ x ∈ X.take 8, clearB es x = false) : chosen es X = none := by
  unfold chosen
  rw [List.find?_eq_none]
  intro x hx
  rw [hno x hx]; exact Bool.false_ne_true
set_option maxHeartbeats 2000000 in
set_option maxRecDepth 100000 in
theorem choose_any (es : List Ent) (u : Value) (X : List (List UInt8)) (v : Value) (hl : es.length ≤ 1000000) (hS : ∀ x ∈ es, Brief x) (hXl : X.length ≤ 9223372036854775806) (w : World) (hU : Ents es u w) (hV : Txts X v w) (hT : Tables w) :
    Calls Tryz.prog 26 #[u, v] w fun e w' => e = .returned (chV (chosen es X)) ∧ Below w.heap.size w w' := by
  obtain ⟨a, cap, rfl⟩ := hV.len
  go_enter Tryz.func26, Tryz.ntmps26
  go_wp2_with fail
  go_loopw [10] (fun i wr => ∃ k : Nat, k ≤ X.length ∧ i = .int .i64 k ∧ Hid (∀ x ∈ X.take (min k 8), clearB es x = false) ∧ Below w.heap.size w wr) (fun i _ => X.length - (intOf i).toNat)
  case atStart => exact ⟨0, Nat.zero_le _, rfl, Lib.hid (by simp), Below.refl _ _⟩
  case round =>
    obtain ⟨k, hk, rfl, hA, hbel⟩ := hrel
    by_cases hlt : k < X.length
    · obtain ⟨b, o, cap', hv, hb, hc⟩ := (hV.kept hbel).at hlt
      cases hv
      by_cases h8 : k < 8
      · have h8' : (k : Int) < 8 := by omega
        have hHit := Lib.hid (fun h => chosen_hit es X k hlt h8 (by have := hA.out; rwa [Nat.min_eq_left (by omega)] at this) h)
        have hNx := Lib.hid (fun (h : clearB es X[k] = false) => show ∀ x ∈ X.take (min (k + 1) 8), clearB es x = false by
          rw [Nat.min_eq_left (by omega), List.take_succ_eq_append_getElem hlt]
          intro x hx
          rcases List.mem_append.1 hx with hx | hx
          · have := hA.out
            rw [Nat.min_eq_left (by omega)] at this
            exact this x hx
          · rw [List.mem_singleton] at hx
            rw [hx]; exact h)
        obtain ⟨P, hx⟩ := some_bytes20 X[k]
        rw [hx] at hc hHit hNx
        rw [txt_of20] at hc
        clear hx
        go_wp2_with fail
        refine (clear_any es u P hl hS _ (hU.kept hbel) (hT.kept hbel)).mono ?_
        rintro e w2 ⟨rfl, hb2⟩
        cases hq : clearB es P.data.toList
        · have hN := Lib.hid (hNx.out hq)
          clear hq
          go_wp2_with fail
          go_roundw
          case rel => exact ⟨k + 1, by omega, by go_num, hN, hbel.trans (hb2.mono hbel.size)⟩
          case measure => simp [intOf]; omega
        · have hN := Lib.hid (hHit.out hq)
          clear hq
          go_wp2_with fail
          go_ret2
          exact ⟨by rw [hN.out]; rfl, hbel.trans (hb2.mono hbel.size)⟩
      · have h8' : decide ((k : Int) < 8) = false := by simp; omega
        have hN := Lib.hid (show ∀ x ∈ X.take (min (k + 1) 8), clearB es x = false by
          have := hA.out
          rw [Nat.min_eq_right (by omega)] at this ⊢
          exact this)
        obtain ⟨P, hx⟩ := some_bytes20 X[k]
        rw [hx] at hc
        rw [txt_of20] at hc
        clear hx
        go_wp2_with fail
        go_roundw
        case rel => exact ⟨k + 1, by omega, by go_num, hN, hbel⟩
        case measure => simp [intOf]; omega
    · obtain rfl : k = X.length := by omega
      have hN := Lib.hid (chosen_none es X (by
        intro x hx
        refine hA.out x ?_
        by_cases h : X.length ≤ 8
        · rw [Nat.min_eq_left h, List.take_of_length_le (Nat.le_refl _)]
          exact List.mem_of_mem_take hx
        · rw [Nat.min_eq_right (by omega)]; exact hx))
      go_wp2_with fail
      go_ret2
      exact ⟨by rw [hN.out]; rfl, hbel⟩
set_option maxHeartbeats 2000000 in
set_option maxRecDepth 100000 in
theorem refChoose_any (es : List Ent) (u : Value) (X : List (List UInt8)) (v : Value) (hl : es.length ≤ 1000000) (hS : ∀ x ∈ es, Brief x) (hX8 : ∀ x ∈ X.take 8, x.length ≤ 1000000) (w : World) (hU : Ents es u w) (hV : Txts X v w) :
    Calls Tryz.prog 39 #[u, v] w fun e w' => e = .returned (chV (chosen es X)) ∧ Below w.heap.size w w' := by
  obtain ⟨a, cap, rfl⟩ := hV.len
  go_enter Tryz.func39, Tryz.ntmps39
  go_wp2_with fail
  go_loopw [6] (fun i wr => ∃ k : Nat, k ≤ X.length ∧ k ≤ 8 ∧ i = .int .i64 k ∧ Hid (∀ x ∈ X.take k, clearB es x = false) ∧ Below w.heap.size w wr) (fun i _ => X.length - (intOf i).toNat)
  case atStart => exact ⟨0, Nat.zero_le _, by omega, rfl, Lib.hid (by simp), Below.refl _ _⟩
  case round =>
    obtain ⟨k, hk, hk8, rfl, hA, hbel⟩ := hrel
    by_cases hlt : k < X.length
    · by_cases h8 : k < 8
      · obtain ⟨b, o, cap', hv, hb, hc⟩ := (hV.kept hbel).at hlt
        cases hv
        have h8' : (k : Int) < 8 := by omega
        have hHit := Lib.hid (fun h => chosen_hit es X k hlt h8 hA.out h)
        have hPs : X[k].length ≤ 1000000 := hX8 X[k] (by
          have : X[k] = (X.take 8)[k]'(by rw [List.length_take]; omega) := by rw [List.getElem_take]
          rw [this]; exact List.getElem_mem _)
        have hNx := Lib.hid (fun (h : clearB es X[k] = false) => show ∀ x ∈ X.take (k + 1), clearB es x = false by
          rw [List.take_succ_eq_append_getElem hlt]
          intro x hx
          rcases List.mem_append.1 hx with hx | hx
          · exact hA.out x hx
          · rw [List.mem_singleton] at hx
            rw [hx]; exact h)
        obtain ⟨P, hx⟩ := some_bytes20 X[k]
        rw [hx] at hc hHit hNx hPs
        rw [txt_of20] at hc
        rw [size_list] at hPs
        clear hx
        go_wp2_with fail
        refine (refClear_any es u P hPs hl hS _ (hU.kept hbel)).mono ?_
        rintro e w2 ⟨rfl, hb2⟩
        have hc2 := cellK hb2 hb hc
        cases hq : clearB es P.data.toList
        · have hN := Lib.hid (hNx.out hq)
          clear hq
          go_wp2_with fail
          go_roundw
          case rel => exact ⟨k + 1, by omega, by omega, by go_num, hN, hbel.trans (hb2.mono hbel.size)⟩
          case measure => simp [intOf]; omega
        · have hN := Lib.hid (hHit.out hq)
          clear hq
          go_wp2_with fail
          go_ret2
          exact ⟨by rw [hN.out]; rfl, hbel.trans (hb2.mono hbel.size)⟩
      · have h8' : decide ((k : Int) < 8) = false := by simp; omega
        have hN := Lib.hid (chosen_none es X (by have := hA.out; rwa [show k = 8 by omega] at this))
        go_wp2_with fail
        go_ret2
        exact ⟨by rw [hN.out]; rfl, hbel⟩
    · obtain rfl : k = X.length := by omega
      have hN := Lib.hid (chosen_none es X (by
        intro x hx
        refine hA.out x ?_
        rw [List.take_of_length_le (Nat.le_refl _)]
        exact List.mem_of_mem_take hx))
      go_wp2_with fail
      go_ret2
      exact ⟨by rw [hN.out]; rfl, hbel⟩
end Go.Proofs.YtafbghlldlconaaGreatDoor

/-
  parts.Encode, ref20.Encode: the walks.
-/
namespace Go.Proofs.YtafbghlldlconaaGreatDoor
set_option linter.unusedVariables false
set_option linter.unusedSimpArgs false
open Go.RowKit PT
open Go.Lib (OthersKept)

/-- an entry's lines -/
def piece (b : List UInt8) (x : Ent) : List UInt8 := [45, 45] ++ b ++ [13, 10] ++ partE x ++ [13, 10]
def pieces (b : List UInt8) (es : List Ent) : List UInt8 := es.flatMap (piece b)
def encP20 (b : List UInt8) (es : List Ent) : List UInt8 := pieces b es ++ ([45, 45] ++ b ++ [45, 45, 13, 10])
theorem pieces_step (b : List UInt8) (es : List Ent) (k : Nat) (hk : k < es.length) : pieces b (es.take (k + 1)) = pieces b (es.take k) ++ piece b es[k] := by
  unfold pieces
  rw [List.take_succ_eq_append_getElem hk, List.flatMap_append]
  simp
theorem piece_len (b : List UInt8) (hb : b.length ≤ 70) (x : Ent) (h : Brief x) : (piece b x).length ≤ 60076 := by
  have := partE_len x h.1 h.2.1 h.2.2.1 h.2.2.2
  unfold piece
  simp only [List.length_append, List.length_cons, List.length_nil]
  omega
theorem pieces_len (b : List UInt8) (hb : b.length ≤ 70) (es : List Ent) (hS : ∀ x ∈ es, Brief x) : (pieces b es).length ≤ es.length * 60076 := by
  induction es with
  | nil => simp [pieces]
  | cons x r ih =>
    have h1 := piece_len b hb x (hS x (by simp))
    have h2 := ih (fun y hy => hS y (by simp [hy]))
    unfold pieces at h2 ⊢
    rw [List.flatMap_cons, List.length_append, List.length_cons, Nat.add_mul]
    omega
theorem SK.of_below {B b : Nat} {W W' : World} (hB : B ≤ W.heap.size) (hb : Below W.heap.size W W') : SK B b W W' :=
  ⟨hb.mono hB, fun k o hk _ _ => by rw [hb.block k (Array.getElem?_eq_some_iff.1 hk).1]; exact hk⟩
theorem piece_cat (b : ByteArray) (p : List UInt8) : (ByteArray.mk #[45, 45] ++ b ++ ByteArray.mk #[13, 10] ++ ByteArray.mk p.toArray ++ ByteArray.mk #[13, 10]).data.toList = [45, 45] ++ b.data.toList ++ [13, 10] ++ p ++ [13, 10] := by simp
theorem last_cat (b : ByteArray) : (ByteArray.mk #[45, 45] ++ b ++ ByteArray.mk #[45, 45] ++ ByteArray.mk #[13, 10]).data.toList = [45, 45] ++ b.data.toList ++ [45, 45, 13, 10] := by simp
theorem fit_size (b : ByteArray) (h : fitB b.data.toList = true) : 1 ≤ b.size ∧ b.size ≤ 70 := by
  unfold fitB at h
  rw [Bool.and_eq_true, Bool.and_eq_true, decide_eq_true_eq, decide_eq_true_eq, size_list] at h
  omega
theorem clear_fit {es : List Ent} {b : ByteArray} (h : clearB es b.data.toList = true) : 1 ≤ b.size ∧ b.size ≤ 70 := by
  unfold clearB at h
  rw [Bool.and_eq_true] at h
  exact fit_size b h.1
def encV (es : List Ent) (b : List UInt8) : Value := if clearB es b then .tuple #[.string ⟨(encP20 b es).toArray⟩, .int .i64 0] else .tuple #[.string ⟨#[]⟩, .int .i64 10]
set_option maxHeartbeats 2000000 in
set_option maxRecDepth 100000 in
theorem partsEncode_any (es : List Ent) (u : Value) (b : ByteArray) (hl : es.length ≤ 1000) (hS : ∀ x ∈ es, Brief x) (w : World) (hU : Ents es u w) (hT : Tables w) :
    Calls Tryz.prog 66 #[u, .string b] w fun e w' => e = .returned (encV es b.data.toList) ∧ Below w.heap.size w w' := by
  obtain ⟨a, cap, rfl⟩ := hU.len
  go_enter Tryz.func66, Tryz.ntmps66
  go_wp2_with fail
  refine (clear_any es _ b (by omega) hS _ hU hT).mono ?_
  rintro e w1 ⟨rfl, hb1⟩
  cases hq : clearB es b.data.toList
  · have hN := Lib.hid (show encV es b.data.toList = .tuple #[.string ⟨#[]⟩, .int .i64 10] by unfold encV; rw [hq]; rfl)
    clear hq
    go_wp2_with fail
    go_ret2
    exact ⟨by rw [hN.out]; rfl, hb1⟩
  · have hN := Lib.hid (show encV es b.data.toList = .tuple #[.string ⟨(encP20 b.data.toList es).toArray⟩, .int .i64 0] by unfold encV; rw [hq]; rfl)
    obtain ⟨hbz1, hbz⟩ := clear_fit hq
    clear hq
    have hU1 := hU.kept hb1
    have hT1 := hT.kept hb1
    have hb2 := (Below.refl w1.heap.size w1).alloc (Nat.le_refl _) (.cells #[.pointer none, .slice none 0 0] 123)
    have hB0 := SB.fresh w1
    have hs2 : (w1.alloc (.cells #[.pointer none, .slice none 0 0] 123)).heap.size = w1.heap.size + 1 := by simp
    have HS2 := Lib.hid hs2
    have hb1s := hb1.size
    clear hs2
    go_wp2_with fail
    have hW2s := HS2.out
    generalize w1.alloc (.cells #[.pointer none, .slice none 0 0] 123) = W2 at *
    have hb70 : b.data.toList.length ≤ 70 := by rw [size_list]; exact hbz
    go_loopw [15] (fun i wr => ∃ k : Nat, k ≤ es.length ∧ i = .int .i64 k ∧ SB w1.heap.size w1.heap.size (pieces b.data.toList (es.take k)) wr ∧ SK w1.heap.size w1.heap.size W2 wr ∧ Below w1.heap.size w1 wr) (fun i _ => es.length - (intOf i).toNat)
    case atStart => exact ⟨0, Nat.zero_le _, rfl, hB0, SK.refl _ _ _, hb2⟩
    case round =>
      obtain ⟨k, hk, rfl, hown, hsk, hbel⟩ := hrel
      have hsz := hbel.size
      have hLl := pieces_len b.data.toList hb70 (es.take k) (fun x hx => hS x (List.mem_of_mem_take hx))
      have hL2 : (pieces b.data.toList (es.take k)).length ≤ 100000000 := by
        have : (es.take k).length ≤ 1000 := by rw [List.length_take]; omega
        omega
      by_cases hlt : k < es.length
      · obtain ⟨bb, o, cap', hv, hbb, hc0, hc1, hc2, hc3, hc4⟩ := (hU1.kept hbel).five hlt
        cases hv
        have hSt := Lib.hid (pieces_step b.data.toList es k hlt)
        have hSk := hS es[k] (List.getElem_mem hlt)
        generalize es[k] = x at *
        have hpl := partE_len x hSk.1 hSk.2.1 hSk.2.2.1 hSk.2.2.2
        have hb3 := (Below.refl wr.heap.size wr).alloc (Nat.le_refl _) (.cells #[.string x.n, .string x.v, .bool x.f, .string x.fn, .string x.t] 73)
        have hown3 := hown.kept hb3
        have hsk3 := hsk.trans (SK.of_below hsz hb3)
        have hT3 := (hT1.kept hbel).kept hb3
        have hbel3 := hbel.trans (hb3.mono hsz)
        go_wp2_with fail
        generalize wr.alloc (.cells #[.string x.n, .string x.v, .bool x.f, .string x.fn, .string x.t] 73) = W3 at *
        refine (part_any x hSk.1 hSk.2.1 hSk.2.2.1 hSk.2.2.2 _ hT3).mono ?_
        rintro e w4 ⟨rfl, hb4⟩
        have hS0 : ∃ S : ByteArray, ByteArray.mk #[45, 45] ++ b ++ ByteArray.mk #[13, 10] ++ ByteArray.mk (partE x).toArray ++ ByteArray.mk #[13, 10] = S ∧ S.data.toList = piece b.data.toList x := ⟨_, rfl, piece_cat b (partE x)⟩
        obtain ⟨S, hX, hSl⟩ := hS0
        have hSz : S.size ≤ 60076 := by rw [← size_list, hSl]; exact piece_len _ hb70 x hSk
        have hSz1 : 1 ≤ S.size := by rw [← size_list, hSl]; unfold piece; simp only [List.length_append, List.length_cons, List.length_nil]; omega
        have HX := Lib.hid hX
        have HSl := Lib.hid hSl
        have hbel3s := hbel3.size
        have hown4 := hown3.kept hb4
        have hsk4 := hsk3.trans (SK.of_below hbel3s hb4)
        have hbel4 := hbel3.trans (hb4.mono hbel3s)
        have hq1 : (pieces b.data.toList (es.take k)).length + S.size < 70368744177664 := by omega
        have hpe : prtP x.n.data.toList x.v.data.toList x.f x.fn.data.toList x.t.data.toList = partE x := rfl
        rw [hpe]
        clear hX hSl hpe
        go_wp2_with fail
        rw [HX.out]
        refine (writeString_any _ _ _ S _ hown4 hq1 hSz1 hbel4.size).mono ?_
        rintro e w5 ⟨rfl, hown5, hsk5⟩
        have hown6 : SB w1.heap.size w1.heap.size (pieces b.data.toList (es.take (k + 1))) w5 := by rw [hSt.out, ← HSl.out]; exact hown5
        clear hown5
        go_wp2_with fail
        go_roundw
        case rel => exact ⟨k + 1, by omega, by go_num, hown6, hsk4.trans hsk5, hbel4.trans hsk5.1⟩
        case measure => simp [intOf]; omega
      · obtain rfl : k = es.length := by omega
        rw [List.take_of_length_le (Nat.le_refl _)] at hown hL2
        have hS0 : ∃ S : ByteArray, ByteArray.mk #[45, 45] ++ b ++ ByteArray.mk #[45, 45] ++ ByteArray.mk #[13, 10] = S ∧ S.data.toList = [45, 45] ++ b.data.toList ++ [45, 45, 13, 10] := ⟨_, rfl, last_cat b⟩
        obtain ⟨S, hX, hSl⟩ := hS0
        have hSz : S.size = b.size + 6 := by rw [← size_list, hSl]; simp only [List.length_append, List.length_cons, List.length_nil, size_list]; omega
        have HX := Lib.hid hX
        have HSl := Lib.hid hSl
        have hq1 : (pieces b.data.toList es).length + S.size < 70368744177664 := by omega
        have hq2 : 1 ≤ S.size := by omega
        clear hX hSl hSz
        go_wp2_with fail
        rw [HX.out]
        refine (writeString_any _ _ _ S _ hown hq1 hq2 hsz).mono ?_
        rintro e w5 ⟨rfl, hown5, hsk5⟩
        have hown6 : SB w1.heap.size w1.heap.size (encP20 b.data.toList es) w5 := by unfold encP20; rw [← HSl.out]; exact hown5
        have hbel5 := hbel.trans hsk5.1
        clear hown5
        go_wp2_with fail
        refine (string_any _ _ _ _ hown6 hbel5.size).mono ?_
        rintro e w6 ⟨rfl, hown7, hsk7⟩
        go_wp2_with fail
        go_ret2
        exact ⟨by rw [hN.out]; rfl, bs hb1 (hbel5.trans hsk7.1)⟩
set_option maxHeartbeats 2000000 in
set_option maxRecDepth 100000 in
theorem refPartsEncode_any (es : List Ent) (u : Value) (b : ByteArray) (hbs : b.size ≤ 1000000) (hl : es.length ≤ 1000) (hS : ∀ x ∈ es, Brief x) (w : World) (hU : Ents es u w) :
    Calls Tryz.prog 79 #[u, .string b] w fun e w' => e = .returned (encV es b.data.toList) ∧ Below w.heap.size w w' := by
  obtain ⟨a, cap, rfl⟩ := hU.len
  go_enter Tryz.func79, Tryz.ntmps79
  go_wp2_with fail
  refine (refClear_any es _ b hbs (by omega) hS _ hU).mono ?_
  rintro e w1 ⟨rfl, hb1⟩
  cases hq : clearB es b.data.toList
  · have hN := Lib.hid (show encV es b.data.toList = .tuple #[.string ⟨#[]⟩, .int .i64 10] by unfold encV; rw [hq]; rfl)
    clear hq
    go_wp2_with fail
    go_ret2
    exact ⟨by rw [hN.out]; rfl, hb1⟩
  · have hN := Lib.hid (show encV es b.data.toList = .tuple #[.string ⟨(encP20 b.data.toList es).toArray⟩, .int .i64 0] by unfold encV; rw [hq]; rfl)
    obtain ⟨hbz1, hbz⟩ := clear_fit hq
    clear hq
    have hU1 := hU.kept hb1
    have hb70 : b.data.toList.length ≤ 70 := by rw [size_list]; exact hbz
    go_wp2_with fail
    go_loopw [7, 6] (fun i v wr => ∃ k : Nat, k ≤ es.length ∧ i = .int .i64 k ∧ OB w1.heap.size (pieces b.data.toList (es.take k)) v wr ∧ Below w1.heap.size w1 wr) (fun i _ _ => es.length - (intOf i).toNat)
    case atStart => exact ⟨0, Nat.zero_le _, rfl, OB.nil _ _, Below.refl _ _⟩
    case round =>
      obtain ⟨k, hk, rfl, hown, hbel⟩ := hrel
      have hsz := hbel.size
      have hLl := pieces_len b.data.toList hb70 (es.take k) (fun x hx => hS x (List.mem_of_mem_take hx))
      have hL2 : (pieces b.data.toList (es.take k)).length ≤ 100000000 := by
        have : (es.take k).length ≤ 1000 := by rw [List.length_take]; omega
        omega
      have hA1 : (pieces b.data.toList (es.take k)).length + (ByteArray.mk #[45, 45]).size < 70368744177664 := by have : (ByteArray.mk #[45, 45]).size = 2 := rfl; omega
      have hA2 : (pieces b.data.toList (es.take k) ++ [45, 45]).length + b.size < 70368744177664 := by rw [List.length_append]; simp only [List.length_cons, List.length_nil]; omega
      by_cases hlt : k < es.length
      · have hA3 : (pieces b.data.toList (es.take k) ++ [45, 45] ++ b.data.toList).length + (ByteArray.mk #[13, 10]).size < 70368744177664 := by have : (ByteArray.mk #[13, 10]).size = 2 := rfl; simp only [List.length_append, List.length_cons, List.length_nil]; omega
        obtain ⟨bb, o, cap', hv, hbb, hc0, hc1, hc2, hc3, hc4⟩ := hU1.five hlt
        cases hv
        have hSt := Lib.hid (pieces_step b.data.toList es k hlt)
        have hSk := hS es[k] (List.getElem_mem hlt)
        generalize es[k] = x at *
        have hpl := partE_len x hSk.1 hSk.2.1 hSk.2.2.1 hSk.2.2.2
        have H0 := Lib.hid hc0
        have H1 := Lib.hid hc1
        have H2 := Lib.hid hc2
        have H3 := Lib.hid hc3
        have H4 := Lib.hid hc4
        clear hc0 hc1 hc2 hc3 hc4
        go_wp2_with (first | (at_builtin; refine wpList_append_text (t := ⟨#[45, 45]⟩) rfl _ _ rfl rfl rfl hown hA1 hsz ?_; intro v2 w2 hown2 hb2; have hs2 := hb2.size) | (at_builtin; refine wpList_append_text (t := b) rfl _ _ rfl rfl rfl hown2 hA2 (by omega) ?_; intro v3 w3 hown3 hb3; have hs3 := hb3.size) | (at_builtin; refine wpList_append_text (t := ⟨#[13, 10]⟩) rfl _ _ rfl rfl rfl hown3 hA3 (by omega) ?_; intro v4 w4 hown4 hb4; have hs4 := hb4.size; have hbq := (((hbel.trans hb2).trans hb3).trans hb4); have p0 := cellK hbq hbb H0.out; have p1 := cellK hbq hbb H1.out; have p2 := cellK hbq hbb H2.out; have p3 := cellK hbq hbb H3.out; have p4 := cellK hbq hbb H4.out))
        refine (refPart_any x hSk.1 hSk.2.1 hSk.2.2.1 hSk.2.2.2 _).mono ?_
        rintro e w5 ⟨rfl, hb5⟩
        have hpe : prtP x.n.data.toList x.v.data.toList x.f x.fn.data.toList x.t.data.toList = partE x := rfl
        rw [hpe]
        have hs5 := hb5.size
        have hown5 := hown4.kept hb5
        have hA5 : (pieces b.data.toList (es.take k) ++ [45, 45] ++ b.data.toList ++ [13, 10]).length + (ByteArray.mk (partE x).toArray).size < 70368744177664 := by rw [size_mk]; simp only [List.length_append, List.length_cons, List.length_nil]; omega
        have hA6 : (pieces b.data.toList (es.take k) ++ [45, 45] ++ b.data.toList ++ [13, 10] ++ partE x).length + (ByteArray.mk #[13, 10]).size < 70368744177664 := by have : (ByteArray.mk #[13, 10]).size = 2 := rfl; simp only [List.length_append, List.length_cons, List.length_nil]; omega
        clear hpe
        go_wp2_with (first | (at_builtin; refine wpList_append_text (t := ⟨(partE x).toArray⟩) rfl _ _ rfl rfl rfl hown5 hA5 (by omega) ?_; intro v6 w6 hown6 hb6; have hs6 := hb6.size) | (at_builtin; refine wpList_append_text (t := ⟨#[13, 10]⟩) rfl _ _ rfl rfl rfl hown6 hA6 (by omega) ?_; intro v7 w7 hown7 hb7))
        go_roundw
        case rel => exact ⟨k + 1, by omega, by go_num, by rw [hSt.out]; unfold piece; simp only [List.append_assoc] at hown7 ⊢; exact hown7, (((((hbel.trans hb2).trans hb3).trans hb4).trans (hb5.mono (by omega))).trans hb6).trans hb7⟩
        case measure => simp [intOf]; omega
      · obtain rfl : k = es.length := by omega
        rw [List.take_of_length_le (Nat.le_refl _)] at hown hA1 hA2 hL2
        have hA3 : (pieces b.data.toList es ++ [45, 45] ++ b.data.toList).length + (ByteArray.mk #[45, 45, 13, 10]).size < 70368744177664 := by have : (ByteArray.mk #[45, 45, 13, 10]).size = 4 := rfl; simp only [List.length_append, List.length_cons, List.length_nil]; omega
        have hE := Lib.hid (show pieces b.data.toList es ++ 45 :: 45 :: (b.data.toList ++ [45, 45, 13, 10]) = encP20 b.data.toList es by unfold encP20; simp)
        go_wp2_with (first | (at_builtin; refine wpList_append_text (t := ⟨#[45, 45]⟩) rfl _ _ rfl rfl rfl hown hA1 hsz ?_; intro v2 w2 hown2 hb2; have hs2 := hb2.size) | (at_builtin; refine wpList_append_text (t := b) rfl _ _ rfl rfl rfl hown2 hA2 (by omega) ?_; intro v3 w3 hown3 hb3; have hs3 := hb3.size) | (at_builtin; refine wpList_append_text (t := ⟨#[45, 45, 13, 10]⟩) rfl _ _ rfl rfl rfl hown3 hA3 (by omega) ?_; intro v4 w4 hown4 hb4; have hcb := hown4.conv))
        go_ret2
        refine ⟨?_, bs hb1 (((hbel.trans hb2).trans hb3).trans hb4)⟩
        rw [hN.out, ← hE.out]
        rfl
end Go.Proofs.YtafbghlldlconaaGreatDoor
