/-
  parts.Fit, kind, name, carried, part: the walks.
-/
import Derived.Test.YtapbljaohhcpoaaDoorEnts
import Derived.Test.YtapbljaohhcpoaaDoorLines
import Derived.Test.YtapbljaohhcpoaaDoorPlainParts
import Derived.Deep.RegionHeld3
import Derived.BigQuiet
namespace Go.Proofs.YtapbljaohhcpoaaDoor
open Go.RowKit PT

theorem str_of20 {s : ByteArray} {l : List UInt8} (h : s.data.toList = l) : Ending.returned (.string s) = .returned (.string ⟨l.toArray⟩) := by
  rw [← h]
theorem cellK {base b o : Nat} {w w' : World} (hb : Below base w w') (h : b < base) {u : Value} (hc : w.cell? ⟨b, o, none⟩ = some u) : w'.cell? ⟨b, o, none⟩ = some u := by
  rw [← hc]
  simp only [World.cell?, hb.block b h]
theorem take_world {Q : Exit → Act → World → Prop} {e : Exit} {a : Act} {W : World} (S : World → Prop) (h : S W) (k : S W → Q e a W) : Q e a W := k h
theorem fit_cases (c : UInt8) (h : (letterB c || decide (c = 45)) = true) : (97 ≤ c.toNat ∧ c.toNat ≤ 122) ∨ (65 ≤ c.toNat ∧ c.toNat ≤ 90) ∨ (48 ≤ c.toNat ∧ c.toNat ≤ 57) ∨ c.toNat = 45 := by
  have : ∀ n : Fin 256, (letterB (UInt8.ofNat n.val) || decide (UInt8.ofNat n.val = 45)) = true → ((97 ≤ n.val ∧ n.val ≤ 122) ∨ (65 ≤ n.val ∧ n.val ≤ 90) ∨ (48 ≤ n.val ∧ n.val ≤ 57) ∨ n.val = 45) := by decide +kernel
  have h' := this ⟨c.toNat, c.toNat_lt⟩
  simp only [UInt8.ofNat_toNat] at h'
  exact h' h
theorem fit_not (c : UInt8) (h : (letterB c || decide (c = 45)) = false) : (c.toNat < 97 ∨ 122 < c.toNat) ∧ (c.toNat < 65 ∨ 90 < c.toNat) ∧ (c.toNat < 48 ∨ 57 < c.toNat) ∧ c.toNat ≠ 45 := by
  have : ∀ n : Fin 256, (letterB (UInt8.ofNat n.val) || decide (UInt8.ofNat n.val = 45)) = false → ((n.val < 97 ∨ 122 < n.val) ∧ (n.val < 65 ∨ 90 < n.val) ∧ (n.val < 48 ∨ 57 < n.val) ∧ n.val ≠ 45) := by decide +kernel
  have h' := this ⟨c.toNat, c.toNat_lt⟩
  simp only [UInt8.ofNat_toNat] at h'
  exact h' h
set_option maxHeartbeats 2000000 in
set_option maxRecDepth 100000 in
theorem partsFit_any (s : ByteArray) (w : World) :
    Calls Tryd.prog 11 #[.string s] w fun e w' => e = .returned (.bool (fitB s.data.toList)) ∧ w = w' := by
  have hpe : s.toList.isEmpty = s.data.toList.isEmpty := by rw [ByteArray.toList_eq]
  go_enter Tryd.func11, Tryd.ntmps11
  by_cases h0 : s.size = 0
  · have hl : s.data.toList = [] := List.length_eq_zero_iff.1 (by rw [size_list]; exact h0)
    rw [hl] at hpe
    have hN := Lib.hid (show fitB s.data.toList = false by rw [hl]; rfl)
    have hpe' : s.toList.isEmpty = true := hpe
    clear hl hpe h0
    go_wp2_with fail
    go_ret
    exact ⟨ret_bool hN.out.symm, rfl⟩
  · have hpe' : s.toList.isEmpty = false := by
      rw [hpe]
      cases hl : s.data.toList with
      | nil => have := congrArg List.length hl; rw [size_list, List.length_nil] at this; omega
      | cons _ _ => rfl
    clear hpe
    by_cases h70 : s.size ≤ 70
    · have h70' : decide ((70 : Int) < (s.size : Int)) = false := by simp; omega
      go_wp2_with fail
      go_loop [14] (fun i => ∃ k : Nat, k ≤ s.size ∧ i = .int .i64 k ∧ Hid ((s.data.toList.take k).all (fun c => letterB c || decide (c = 45)) = true)) (fun i => s.size - (intOf i).toNat)
      case atStart => exact ⟨0, Nat.zero_le _, rfl, Lib.hid rfl⟩
      case round =>
        obtain ⟨k, hk, rfl, hA⟩ := hrel
        by_cases hlt : k < s.size
        · have hT := Lib.hid (fitB_all s k hlt)
          have hNo := Lib.hid (fitB_no s k hlt)
          cases hc : (letterB s[k] || decide (s[k] = 45))
          · have hN := Lib.hid (hNo.out hc)
            obtain ⟨h1, h2, h3, h4⟩ := fit_not s[k] hc
            have h4' : ((s[k].toNat : Int) != 45) = true := by simp only [bne_iff_ne, ne_eq]; omega
            clear hc hT hNo
            rcases h1 with h1 | h1 <;> rcases h2 with h2 | h2 <;> rcases h3 with h3 | h3
            all_goals (try (exfalso; omega))
            all_goals
              (try have a1 : (s[k].toNat : Int) < 97 := by omega)
              (try have a1 : (122 : Int) < (s[k].toNat : Int) := by omega)
              (try have a2 : (s[k].toNat : Int) < 65 := by omega)
              (try have a2 : (90 : Int) < (s[k].toNat : Int) := by omega)
              (try have a3 : (s[k].toNat : Int) < 48 := by omega)
              (try have a3 : (57 : Int) < (s[k].toNat : Int) := by omega)
              go_wp2_with fail
              go_ret
              exact ⟨ret_bool hN.out.symm, rfl⟩
          · have hN := Lib.hid (show (s.data.toList.take (k + 1)).all (fun c => letterB c || decide (c = 45)) = true by rw [hT.out, hA.out, hc]; rfl)
            have hcs := fit_cases s[k] hc
            clear hc hT hNo
            rcases hcs with hc | hc | hc | hc
            all_goals
              (try obtain ⟨hx, hy⟩ := hc)
              (try have hx' : (97 : Int) ≤ (s[k].toNat : Int) := by omega)
              (try have hy' : (s[k].toNat : Int) ≤ (122 : Int) := by omega)
              (try have hx' : (65 : Int) ≤ (s[k].toNat : Int) := by omega)
              (try have hy' : (s[k].toNat : Int) ≤ (90 : Int) := by omega)
              (try have hx' : (48 : Int) ≤ (s[k].toNat : Int) := by omega)
              (try have hy' : (s[k].toNat : Int) ≤ (57 : Int) := by omega)
              go_wp2_with fail
              go_round
              case rel => exact ⟨k + 1, by omega, by go_num, hN⟩
              case measure => simp [intOf]; omega
        · obtain rfl : k = s.size := by omega
          have hN := Lib.hid (show fitB s.data.toList = true by
            unfold fitB
            have := hA.out
            rw [List.take_of_length_le (by rw [size_list]; exact Nat.le_refl _)] at this
            rw [this, size_list, decide_eq_true h70, decide_eq_true (by omega)]; rfl)
          go_wp2_with fail
          go_ret
          exact ⟨ret_bool hN.out.symm, rfl⟩
    · have h70' : (70 : Int) < (s.size : Int) := by omega
      have hN := Lib.hid (show fitB s.data.toList = false by unfold fitB; rw [size_list, decide_eq_false h70]; simp)
      go_wp2_with fail
      go_ret
      exact ⟨ret_bool hN.out.symm, rfl⟩
set_option maxHeartbeats 1000000 in
set_option maxRecDepth 100000 in
theorem kind_any (s : ByteArray) (hs : s.size ≤ 4294967296) (w : World) :
    Calls Tryd.prog 41 #[.string s] w fun e w' => e = .returned (.string ⟨(typ s.data.toList).toArray⟩) ∧ w = w' := by
  have hpe : s.toList.isEmpty = s.data.toList.isEmpty := by rw [ByteArray.toList_eq]
  go_enter Tryd.func41, Tryd.ntmps41
  go_wp2_with fail
  go_loop [6] (fun i => ∃ k : Nat, k ≤ s.size ∧ i = .int .i64 k ∧ Hid ((s.data.toList.take k).all okT = true)) (fun i => s.size - (intOf i).toNat)
  case atStart => exact ⟨0, Nat.zero_le _, rfl, Lib.hid rfl⟩
  case round =>
    obtain ⟨k, hk, rfl, hA⟩ := hrel
    by_cases hlt : k < s.size
    · by_cases h1 : s[k].toNat < 32
      · have h1' : (s[k].toNat : Int) < 32 := by omega
        have hN := Lib.hid (typ_no s k hlt (by unfold okT; rw [decide_eq_false (by omega)]; rfl))
        go_wp2_with fail
        go_ret
        exact ⟨ret_str hN.out.symm, rfl⟩
      · have h1' : decide ((s[k].toNat : Int) < 32) = false := by simp; omega
        by_cases h2 : 126 < s[k].toNat
        · have h2' : (126 : Int) < (s[k].toNat : Int) := by omega
          have hN := Lib.hid (typ_no s k hlt (by unfold okT; rw [decide_eq_false (show ¬ s[k].toNat ≤ 126 by omega), Bool.and_false]))
          go_wp2_with fail
          go_ret
          exact ⟨ret_str hN.out.symm, rfl⟩
        · have h2' : decide ((126 : Int) < (s[k].toNat : Int)) = false := by simp; omega
          have hN := Lib.hid (show (s.data.toList.take (k + 1)).all okT = true by
            rw [take_snoc s k hlt, List.all_append, hA.out]
            unfold okT
            simp; omega)
          go_wp2_with fail
          go_round
          case rel => exact ⟨k + 1, by omega, by go_num, hN⟩
          case measure => simp [intOf]; omega
    · obtain rfl : k = s.size := by omega
      have hA' : s.data.toList.all okT = true := by have := hA.out; rwa [List.take_of_length_le (by rw [size_list]; exact Nat.le_refl _)] at this
      cases he : s.data.toList.isEmpty
      · rw [he] at hpe
        have hN := Lib.hid (show typ s.data.toList = s.data.toList by unfold typ; rw [hA', he]; rfl)
        clear hA' he
        go_wp2_with fail
        go_ret
        exact ⟨by rw [hN.out]; rfl, rfl⟩
      · rw [he] at hpe
        have hN := Lib.hid (show typ s.data.toList = octet by unfold typ; rw [he]; simp)
        clear hA' he
        go_wp2_with fail
        go_ret
        exact ⟨ret_str hN.out.symm, rfl⟩
theorem name_any (s : ByteArray) (hs : s.size ≤ 200000) (w : World) (hT : Tables w) :
    Calls Tryd.prog 39 #[.string s] w fun e w' => e = .returned (.string ⟨(nm s.data.toList).toArray⟩) ∧ Below w.heap.size w w' := by
  have h1 := ends_len [13, 10] s.data.toList
  rw [size_list] at h1
  simp only [List.length_cons, List.length_nil] at h1
  have h2 := sub1_len 13 [37, 48, 68] (ends [13, 10] s.data.toList)
  have h3 := sub1_len 10 [37, 48, 65] (sub1 13 [37, 48, 68] (ends [13, 10] s.data.toList))
  simp only [List.length_cons, List.length_nil] at h2 h3
  have hR := Lib.hid (escN_rep (ends [13, 10] s.data.toList))
  go_enter Tryd.func39, Tryd.ntmps39
  go_wp2_with fail
  refine (pairs_any s (by omega) _ hT).mono ?_
  rintro e w1 ⟨rfl, hb1⟩
  have hT1 := hT.kept hb1
  go_wp2_with fail
  refine (replaceAll_any _ [13] [37, 48, 68] (by rw [size_mk]; omega) (by decide) (by decide) (by decide) _ hT1).mono ?_
  rintro e w2 ⟨rfl, hb2⟩
  rw [rep_one]
  have hT2 := hT1.kept hb2
  go_wp2_with fail
  refine (replaceAll_any _ [10] [37, 48, 65] (by rw [size_mk]; omega) (by decide) (by decide) (by decide) _ hT2).mono ?_
  rintro e w3 ⟨rfl, hb3⟩
  rw [rep_one]
  have hT3 := hT2.kept hb3
  go_wp2_with fail
  refine (replaceAll_any _ [34] [37, 50, 50] (by rw [size_mk]; omega) (by decide) (by decide) (by decide) _ hT3).mono ?_
  rintro e w4 ⟨rfl, hb4⟩
  rw [rep_one]
  go_wp2_with fail
  go_ret
  exact ⟨ret_str hR.out, bs (bs (bs hb1 hb2) hb3) hb4⟩
set_option maxHeartbeats 1000000 in
set_option maxRecDepth 100000 in
theorem carried_any (x : Ent) (hs : x.v.size ≤ 4000000) (w : World) (hT : Tables w) :
    Calls Tryd.prog 40 #[entV x] w fun e w' => e = .returned (.string ⟨(carr x.f x.v.data.toList).toArray⟩) ∧ Below w.heap.size w w' := by
  obtain ⟨n, v, f, fn, t⟩ := x
  unfold entV
  simp only at hs ⊢
  have hb0 := (Below.refl w.heap.size w).alloc (Nat.le_refl _) (.cells #[.string n, .string v, .bool f, .string fn, .string t] 50)
  have hT0 := hT.kept hb0
  cases f
  · go_enter Tryd.func40, Tryd.ntmps40
    go_wp2_with fail
    refine (pairs_any v hs _ hT0).mono ?_
    rintro e w1 ⟨rfl, hb1⟩
    go_wp2_with fail
    go_ret
    exact ⟨rfl, bs hb0 hb1⟩
  · go_enter Tryd.func40, Tryd.ntmps40
    go_wp2_with fail
    go_ret
    exact ⟨rfl, hb0⟩
theorem partS_kept {b : Nat} {x y : Value} {w1 W W' : World} (h : W.cell? ⟨b, 3, none⟩ = some x ∧ W.cell? ⟨b, 4, none⟩ = some y ∧ b < w1.heap.size ∧ Below w1.heap.size w1 W ∧ Tables W) (hb : Below W.heap.size W W') :
    W'.cell? ⟨b, 3, none⟩ = some x ∧ W'.cell? ⟨b, 4, none⟩ = some y ∧ b < w1.heap.size ∧ Below w1.heap.size w1 W' ∧ Tables W' := by
  have hlt : b < W.heap.size := by have := h.2.2.2.1.size; omega
  refine ⟨?_, ?_, h.2.2.1, h.2.2.2.1.trans (hb.mono h.2.2.2.1.size), h.2.2.2.2.kept hb⟩
  · rw [← h.1]; simp only [World.cell?, hb.block b hlt]
  · rw [← h.2.1]; simp only [World.cell?, hb.block b hlt]
theorem partS_drew {b : Nat} {x y : Value} {w1 W : World} (h : W.cell? ⟨b, 3, none⟩ = some x ∧ W.cell? ⟨b, 4, none⟩ = some y ∧ b < w1.heap.size ∧ Below w1.heap.size w1 W ∧ Tables W) :
    W.drew.cell? ⟨b, 3, none⟩ = some x ∧ W.drew.cell? ⟨b, 4, none⟩ = some y ∧ b < w1.heap.size ∧ Below w1.heap.size w1 W.drew ∧ Tables W.drew :=
  partS_kept h ⟨rfl, rfl, rfl, Nat.le_refl _, fun _ _ => rfl⟩
set_option maxHeartbeats 2000000 in
set_option maxRecDepth 100000 in
theorem part_any (x : Ent) (h1 : x.n.size ≤ 2000) (h2 : x.v.size ≤ 2000) (h3 : x.fn.size ≤ 2000) (h4 : x.t.size ≤ 2000) (w : World) (hT : Tables w) :
    Calls Tryd.prog 33 #[entV x] w fun e w' => e = .returned (.string ⟨(prtP x.n.data.toList x.v.data.toList x.f x.fn.data.toList x.t.data.toList).toArray⟩) ∧ Below w.heap.size w w' := by
  obtain ⟨n, v, f, fn, t⟩ := x
  unfold entV
  simp only at h1 h2 h3 h4 ⊢
  have hb0 := (Below.refl w.heap.size w).alloc (Nat.le_refl _) (.cells #[.string n, .string v, .bool f, .string fn, .string t] 50)
  have hn0 := Go.heap_alloc_new w (.cells #[.string n, .string v, .bool f, .string fn, .string t] 50)
  have hs0 : (w.alloc (.cells #[.string n, .string v, .bool f, .string fn, .string t] 50)).heap.size = w.heap.size + 1 := by simp
  have hT0 := hT.kept hb0
  have hnl := nm_len n.data.toList
  rw [size_list] at hnl
  go_enter Tryd.func33, Tryd.ntmps33
  go_wp2_with fail
  refine (name_any n (by omega) _ hT0).mono ?_
  rintro e w1 ⟨rfl, hb1⟩
  have hn1 : w1.heap[w.heap.size]? = some (.cells #[.string n, .string v, .bool f, .string fn, .string t] 50) := by rw [hb1.block _ (by omega), hn0]
  have hT1 := hT0.kept hb1
  have q0 : w1.cell? ⟨w.heap.size, 0, none⟩ = some (.string n) := by simp [World.cell?, hn1]
  have q1 : w1.cell? ⟨w.heap.size, 1, none⟩ = some (.string v) := by simp [World.cell?, hn1]
  have q2 : w1.cell? ⟨w.heap.size, 2, none⟩ = some (.bool f) := by simp [World.cell?, hn1]
  have q3 : w1.cell? ⟨w.heap.size, 3, none⟩ = some (.string fn) := by simp [World.cell?, hn1]
  have q4 : w1.cell? ⟨w.heap.size, 4, none⟩ = some (.string t) := by simp [World.cell?, hn1]
  have hb01 := bs hb0 hb1
  clear hn0 hs0
  cases f
  · go_wp2_with fail
    refine (carried_any ⟨n, v, false, fn, t⟩ (by simp only; omega) _ hT1).mono ?_
    rintro e w2 ⟨rfl, hb2⟩
    have hcl : (carr false v.data.toList).length ≤ 6000 := by
      have := ends_len [13, 10] v.data.toList
      rw [size_list] at this
      simp only [List.length_cons, List.length_nil] at this
      show (ends [13, 10] v.data.toList).length ≤ 6000
      omega
    go_wp2_with fail
    go_ret
    refine ⟨?_, bs hb01 hb2⟩
    refine str_of20 ?_
    unfold prtP head1
    simp
  · have hml := nm_len fn.data.toList
    rw [size_list] at hml
    have htl := typ_len t.data.toList
    rw [size_list] at htl
    have k0 : ¬ 9223372036854775807 < 12 + (nm fn.data.toList).length := by omega
    have k1 : ¬ 9223372036854775807 < 12 + (nm fn.data.toList).length + 1 := by omega
    have k2 : ¬ 9223372036854775807 < 12 + (nm fn.data.toList).length + 1 + 2 := by omega
    have k3 : ¬ 9223372036854775807 < 12 + (nm fn.data.toList).length + 1 + 2 + 14 := by omega
    have k4 : ¬ 9223372036854775807 < 12 + (nm fn.data.toList).length + 1 + 2 + 14 + (typ t.data.toList).length := by omega
    have k5 : ¬ 9223372036854775807 < 38 + (nm n.data.toList).length + 1 + (12 + (nm fn.data.toList).length + 1 + 2 + 14 + (typ t.data.toList).length) := by omega
    have hS1 : w1.cell? ⟨w.heap.size, 3, none⟩ = some (.string fn) ∧ w1.cell? ⟨w.heap.size, 4, none⟩ = some (.string t) ∧ w.heap.size < w1.heap.size ∧ Below w1.heap.size w1 w1 ∧ Tables w1 := ⟨q3, q4, (Array.getElem?_eq_some_iff.1 hn1).1, Below.refl _ _, hT1⟩
    go_wp2_with fail
    go_region_held3 (fun W => W.cell? ⟨w.heap.size, 3, none⟩ = some (.string fn) ∧ W.cell? ⟨w.heap.size, 4, none⟩ = some (.string t) ∧ w.heap.size < w1.heap.size ∧ Below w1.heap.size w1 W ∧ Tables W) (first | assumption | exact partS_drew (by assumption) | exact partS_kept (by assumption) (by assumption)) ((first
      | (go_at_call 39; refine (name_any fn (by omega) _ (by first | assumption | exact (And.right (And.right (And.right (And.right (by assumption)))))) ).mono ?_; rintro e w2 ⟨rfl, hb2⟩)
      | (go_at_call 41; refine (kind_any t (by omega) _).mono ?_; rintro e w2 ⟨rfl, rfl⟩)))
    all_goals
      refine take_world (fun W => W.cell? ⟨w.heap.size, 3, none⟩ = some (.string fn) ∧ W.cell? ⟨w.heap.size, 4, none⟩ = some (.string t) ∧ w.heap.size < w1.heap.size ∧ Below w1.heap.size w1 W ∧ Tables W) (by assumption) ?_
      rintro ⟨p3, p4, hlt, hbW, hTW⟩
      have r0 := cellK hbW hlt q0
      have r1 := cellK hbW hlt q1
      have r2 := cellK hbW hlt q2
      go_wp2_with fail
      refine (carried_any ⟨n, v, true, fn, t⟩ (by simp only; omega) _ hTW).mono ?_
      rintro e w5 ⟨rfl, hb5⟩
      have hcl : (carr true v.data.toList).length ≤ 2000 := by
        show v.data.toList.length ≤ 2000
        rw [size_list]; exact h2
      go_wp2_with fail
      go_ret
      refine ⟨?_, bs (bs hb01 hbW) hb5⟩
      refine str_of20 ?_
      unfold prtP head1 head2 head3
      simp
end Go.Proofs.YtapbljaohhcpoaaDoor
