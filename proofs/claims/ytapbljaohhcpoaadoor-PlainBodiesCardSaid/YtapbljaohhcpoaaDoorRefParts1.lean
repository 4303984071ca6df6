/-
  ref20.Fit, Type, Name, Part: the walks.
-/
import Derived.Test.YtapbljaohhcpoaaDoorParts1
import Derived.Test.YtapbljaohhcpoaaDoorRefSigns
namespace Go.Proofs.YtapbljaohhcpoaaDoor
open Go.RowKit PT

set_option maxHeartbeats 1000000 in
set_option maxRecDepth 100000 in
theorem refFit_any (s : ByteArray) (hs : s.size ≤ 4294967296) (w : World) :
    Calls Tryd.prog 12 #[.string s] w fun e w' => e = .returned (.bool (fitB s.data.toList)) ∧ w = w' := by
  go_enter Tryd.func12, Tryd.ntmps12
  go_wp2_with fail
  go_loop [3] (fun i => ∃ k : Nat, k ≤ s.size ∧ i = .int .i64 k ∧ Hid ((s.data.toList.take k).all (fun c => letterB c || decide (c = 45)) = true)) (fun i => s.size - (intOf i).toNat)
  case atStart => exact ⟨0, Nat.zero_le _, rfl, Lib.hid rfl⟩
  case round =>
    obtain ⟨k, hk, rfl, hA⟩ := hrel
    by_cases hlt : k < s.size
    · have hT := Lib.hid (fitB_all s k hlt)
      have hNo := Lib.hid (fitB_no s k hlt)
      go_wp2_with fail
      refine (refPlain_any s[k] _).mono ?_
      rintro e w' ⟨rfl, rfl⟩
      cases hl : letterB s[k]
      · by_cases h45 : s[k] = 45
        · have h45' : ((s[k].toNat : Int) != 45) = false := by rw [h45]; rfl
          have hN := Lib.hid (show (s.data.toList.take (k + 1)).all (fun c => letterB c || decide (c = 45)) = true by rw [hT.out, hA.out, decide_eq_true h45]; simp)
          clear hl h45
          go_wp2_with fail
          go_round
          case rel => exact ⟨k + 1, by omega, by go_num, hN⟩
          case measure => simp [intOf]; omega
        · have h45' : ((s[k].toNat : Int) != 45) = true := by
            simp only [bne_iff_ne, ne_eq]
            intro e
            exact h45 (UInt8.toNat_inj.1 (by have : (45 : UInt8).toNat = 45 := rfl; omega))
          have hN := Lib.hid (hNo.out (by rw [hl, decide_eq_false h45]; rfl))
          clear hl h45
          go_wp2_with fail
          go_ret
          exact ⟨ret_bool hN.out.symm, rfl⟩
      · have hN := Lib.hid (show (s.data.toList.take (k + 1)).all (fun c => letterB c || decide (c = 45)) = true by rw [hT.out, hA.out, hl]; rfl)
        clear hl
        go_wp2_with fail
        go_round
        case rel => exact ⟨k + 1, by omega, by go_num, hN⟩
        case measure => simp [intOf]; omega
    · obtain rfl : k = s.size := by omega
      have hI : fitB s.data.toList = (decide (0 < s.size) && decide (s.size ≤ 70)) := by
        unfold fitB
        have := hA.out
        rw [List.take_of_length_le (by rw [size_list]; exact Nat.le_refl _)] at this
        rw [this, size_list]; rfl
      by_cases h0 : 0 < s.size
      · have h0' : (0 : Int) < (s.size : Int) := by omega
        by_cases h70 : s.size ≤ 70
        · have h70' : (s.size : Int) ≤ 70 := by omega
          have hN := Lib.hid (show fitB s.data.toList = true by rw [hI, decide_eq_true h0, decide_eq_true h70]; rfl)
          clear hI
          go_wp2_with fail
          go_ret
          exact ⟨ret_bool hN.out.symm, rfl⟩
        · have h70' : decide ((s.size : Int) ≤ 70) = false := by simp; omega
          have hN := Lib.hid (show fitB s.data.toList = false by rw [hI, decide_eq_false h70]; simp)
          clear hI
          go_wp2_with fail
          go_ret
          exact ⟨ret_bool hN.out.symm, rfl⟩
      · have h0' : decide (0 < s.size) = false := decide_eq_false h0
        have h00 : ¬ (0 < s.size) := h0
        have hN := Lib.hid (show fitB s.data.toList = false by rw [hI, decide_eq_false h0]; rfl)
        clear hI
        go_wp2_with fail
        go_ret
        exact ⟨ret_bool hN.out.symm, rfl⟩
set_option maxHeartbeats 1000000 in
set_option maxRecDepth 100000 in
theorem refType_any (s : ByteArray) (hs : s.size ≤ 4294967296) (w : World) :
    Calls Tryd.prog 27 #[.string s] w fun e w' => e = .returned (.string ⟨(typ s.data.toList).toArray⟩) ∧ w = w' := by
  go_enter Tryd.func27, Tryd.ntmps27
  go_wp2_with fail
  go_loop [3] (fun i => ∃ k : Nat, k ≤ s.size ∧ i = .int .i64 k ∧ Hid ((s.data.toList.take k).all okT = true)) (fun i => s.size - (intOf i).toNat)
  case atStart => exact ⟨0, Nat.zero_le _, rfl, Lib.hid rfl⟩
  case round =>
    obtain ⟨k, hk, rfl, hA⟩ := hrel
    by_cases hlt : k < s.size
    · by_cases h1 : s[k].toNat < 32
      · have h1' : (s[k].toNat : Int) < 32 := by omega
        have hN := Lib.hid (typ_no s k hlt (by unfold okT; rw [decide_eq_false (by omega)]; rfl))
        go_wp2_with fail
        go_ret
        exact ⟨ret_str hN.out.symm, rfl⟩
      · have h1' : decide ((s[k].toNat : Int) < 32) = false := by simp; omega
        by_cases h2 : 126 < s[k].toNat
        · have h2' : (126 : Int) < (s[k].toNat : Int) := by omega
          have hN := Lib.hid (typ_no s k hlt (by unfold okT; rw [decide_eq_false (show ¬ s[k].toNat ≤ 126 by omega), Bool.and_false]))
          go_wp2_with fail
          go_ret
          exact ⟨ret_str hN.out.symm, rfl⟩
        · have h2' : decide ((126 : Int) < (s[k].toNat : Int)) = false := by simp; omega
          have hN := Lib.hid (show (s.data.toList.take (k + 1)).all okT = true by
            rw [take_snoc s k hlt, List.all_append, hA.out]
            unfold okT
            simp; omega)
          go_wp2_with fail
          go_round
          case rel => exact ⟨k + 1, by omega, by go_num, hN⟩
          case measure => simp [intOf]; omega
    · obtain rfl : k = s.size := by omega
      have hA' : s.data.toList.all okT = true := by have := hA.out; rwa [List.take_of_length_le (by rw [size_list]; exact Nat.le_refl _)] at this
      by_cases h0 : s.size = 0
      · have hl : s.data.toList = [] := List.length_eq_zero_iff.1 (by rw [size_list]; exact h0)
        have hN := Lib.hid (show typ s.data.toList = octet by rw [hl]; rfl)
        have h0' : ((s.size : Int) == 0) = true := by rw [beq_iff_eq]; omega
        clear hl h0 hA'
        go_wp2_with fail
        go_ret
        exact ⟨ret_str hN.out.symm, rfl⟩
      · have h0' := intNe (a := (s.size : Int)) (b := 0) (by omega)
        have hN := Lib.hid (show typ s.data.toList = s.data.toList by
          unfold typ
          cases hl : s.data.toList with
          | nil => have := congrArg List.length hl; rw [size_list, List.length_nil] at this; omega
          | cons c r => rw [← hl, hA']; rw [hl]; rfl)
        clear hA'
        go_wp2_with fail
        go_ret
        exact ⟨by rw [hN.out]; rfl, rfl⟩
theorem esc_snoc (s : ByteArray) (k : Nat) (h : k < s.size) : (s.data.toList.take (k + 1)).flatMap escN = (s.data.toList.take k).flatMap escN ++ escN s[k] := by
  rw [take_snoc s k h, List.flatMap_append]; simp
set_option maxHeartbeats 1000000 in
set_option maxRecDepth 100000 in
theorem refName_any (s : ByteArray) (hs : s.size ≤ 200000) (w : World) :
    Calls Tryd.prog 43 #[.string s] w fun e w' => e = .returned (.string ⟨(nm s.data.toList).toArray⟩) ∧ Below w.heap.size w w' := by
  have h1 := ends_len [13, 10] s.data.toList
  rw [size_list] at h1
  simp only [List.length_cons, List.length_nil] at h1
  go_enter Tryd.func43, Tryd.ntmps43
  go_wp2_with fail
  refine (refPairs_any s (by omega) _).mono ?_
  rintro e w1 ⟨rfl, hb1⟩
  have hb1s := hb1.size
  have ht : ∃ t : ByteArray, t = ⟨(ends [13, 10] s.data.toList).toArray⟩ ∧ t.size ≤ 600000 ∧ nm s.data.toList = t.data.toList.flatMap escN := ⟨_, rfl, by rw [size_mk]; omega, rfl⟩
  obtain ⟨t, ht, htz, hR⟩ := ht
  rw [← ht]
  have HR := Lib.hid hR
  clear ht hR h1
  go_wp2_with fail
  go_loopw [5, 4] (fun i v wr => ∃ k : Nat, k ≤ t.size ∧ i = .int .i64 k ∧ OB w1.heap.size ((t.data.toList.take k).flatMap escN) v wr ∧ Below w1.heap.size w1 wr) (fun i _ _ => t.size - (intOf i).toNat)
  case atStart => exact ⟨0, Nat.zero_le _, rfl, OB.nil _ _, Below.refl _ _⟩
  case round =>
    obtain ⟨k, hk, rfl, hown, hbel⟩ := hrel
    have hsz := hbel.size
    have hEl := escN_len (t.data.toList.take k)
    have hEt : (t.data.toList.take k).length ≤ 600000 := by rw [List.length_take, size_list]; omega
    have hL3 : ((t.data.toList.take k).flatMap escN).length + 3 < 70368744177664 := by omega
    have hL1 : ((t.data.toList.take k).flatMap escN).length < 70368744177664 := by omega
    by_cases hlt : k < t.size
    · have hSn := Lib.hid (esc_snoc t k hlt)
      by_cases hc : t[k] = 10
      · have hc1 : ((t[k].toNat : Int) == 10) = true := by rw [hc]; rfl
        have hN := Lib.hid (show (t.data.toList.take (k + 1)).flatMap escN = (t.data.toList.take k).flatMap escN ++ [37, 48, 65] by rw [hSn.out, hc]; rfl)
        clear hc
        go_wp2_with (at_builtin; refine wpList_append_text (t := ⟨#[37, 48, 65]⟩) rfl _ _ rfl rfl rfl hown hL3 hsz ?_; intro v' w2 hown' hb')
        go_roundw
        case rel => exact ⟨k + 1, by omega, by go_num, by rw [hN.out]; exact hown', hbel.trans hb'⟩
        case measure => simp [intOf]; omega
      · have hc1 : ((t[k].toNat : Int) == 10) = false := by
          rw [beq_eq_false_iff_ne]
          intro e
          exact hc (UInt8.toNat_inj.1 (by have : (10 : UInt8).toNat = 10 := rfl; omega))
        have H10 := Lib.hid hc
        clear hc
        by_cases hc : t[k] = 13
        · have hc2 : ((t[k].toNat : Int) == 13) = true := by rw [hc]; rfl
          have hN := Lib.hid (show (t.data.toList.take (k + 1)).flatMap escN = (t.data.toList.take k).flatMap escN ++ [37, 48, 68] by rw [hSn.out, hc]; rfl)
          clear hc
          go_wp2_with (at_builtin; refine wpList_append_text (t := ⟨#[37, 48, 68]⟩) rfl _ _ rfl rfl rfl hown hL3 hsz ?_; intro v' w2 hown' hb')
          go_roundw
          case rel => exact ⟨k + 1, by omega, by go_num, by rw [hN.out]; exact hown', hbel.trans hb'⟩
          case measure => simp [intOf]; omega
        · have hc2 : ((t[k].toNat : Int) == 13) = false := by
            rw [beq_eq_false_iff_ne]
            intro e
            exact hc (UInt8.toNat_inj.1 (by have : (13 : UInt8).toNat = 13 := rfl; omega))
          have H13 := Lib.hid hc
          clear hc
          by_cases hc : t[k] = 34
          · have hc3 : ((t[k].toNat : Int) == 34) = true := by rw [hc]; rfl
            have hN := Lib.hid (show (t.data.toList.take (k + 1)).flatMap escN = (t.data.toList.take k).flatMap escN ++ [37, 50, 50] by rw [hSn.out, hc]; rfl)
            clear hc
            go_wp2_with (at_builtin; refine wpList_append_text (t := ⟨#[37, 50, 50]⟩) rfl _ _ rfl rfl rfl hown hL3 hsz ?_; intro v' w2 hown' hb')
            go_roundw
            case rel => exact ⟨k + 1, by omega, by go_num, by rw [hN.out]; exact hown', hbel.trans hb'⟩
            case measure => simp [intOf]; omega
          · have hc3 : ((t[k].toNat : Int) == 34) = false := by
              rw [beq_eq_false_iff_ne]
              intro e
              exact hc (UInt8.toNat_inj.1 (by have : (34 : UInt8).toNat = 34 := rfl; omega))
            have hN := Lib.hid (show (t.data.toList.take (k + 1)).flatMap escN = (t.data.toList.take k).flatMap escN ++ [t[k]] by
              rw [hSn.out]; unfold escN; rw [if_neg H10.out, if_neg H13.out, if_neg hc])
            clear hc
            go_wp2_with (at_builtin; refine wpList_append_byte rfl _ _ rfl rfl rfl t[k] rfl hown hL1 hsz ?_; intro v' w2 hown' hb')
            go_roundw
            case rel => exact ⟨k + 1, by omega, by go_num, by rw [hN.out]; exact hown', hbel.trans hb'⟩
            case measure => simp [intOf]; omega
    · obtain rfl : k = t.size := by omega
      have hcb := hown.conv
      have hR2 := Lib.hid (show (t.data.toList.take t.size).flatMap escN = nm s.data.toList by rw [HR.out, List.take_of_length_le (by rw [size_list]; exact Nat.le_refl _)])
      go_wp2_with fail
      go_ret
      exact ⟨ret_str hR2.out, bs hb1 hbel⟩
theorem refS_kept {b : Nat} {x y z : Value} {w1 W W' : World} (h : W.cell? ⟨b, 1, none⟩ = some z ∧ W.cell? ⟨b, 3, none⟩ = some x ∧ W.cell? ⟨b, 4, none⟩ = some y ∧ b < w1.heap.size ∧ Below w1.heap.size w1 W) (hb : Below W.heap.size W W') :
    W'.cell? ⟨b, 1, none⟩ = some z ∧ W'.cell? ⟨b, 3, none⟩ = some x ∧ W'.cell? ⟨b, 4, none⟩ = some y ∧ b < w1.heap.size ∧ Below w1.heap.size w1 W' := by
  have hlt : b < W.heap.size := by have := h.2.2.2.2.size; omega
  refine ⟨?_, ?_, ?_, h.2.2.2.1, h.2.2.2.2.trans (hb.mono h.2.2.2.2.size)⟩
  · rw [← h.1]; simp only [World.cell?, hb.block b hlt]
  · rw [← h.2.1]; simp only [World.cell?, hb.block b hlt]
  · rw [← h.2.2.1]; simp only [World.cell?, hb.block b hlt]
theorem refS_drew {b : Nat} {x y z : Value} {w1 W : World} (h : W.cell? ⟨b, 1, none⟩ = some z ∧ W.cell? ⟨b, 3, none⟩ = some x ∧ W.cell? ⟨b, 4, none⟩ = some y ∧ b < w1.heap.size ∧ Below w1.heap.size w1 W) :
    W.drew.cell? ⟨b, 1, none⟩ = some z ∧ W.drew.cell? ⟨b, 3, none⟩ = some x ∧ W.drew.cell? ⟨b, 4, none⟩ = some y ∧ b < w1.heap.size ∧ Below w1.heap.size w1 W.drew :=
  refS_kept h ⟨rfl, rfl, rfl, Nat.le_refl _, fun _ _ => rfl⟩
set_option maxHeartbeats 2000000 in
set_option maxRecDepth 100000 in
theorem refPart_any (x : Ent) (h1 : x.n.size ≤ 2000) (h2 : x.v.size ≤ 2000) (h3 : x.fn.size ≤ 2000) (h4 : x.t.size ≤ 2000) (w : World) :
    Calls Tryd.prog 35 #[entV x] w fun e w' => e = .returned (.string ⟨(prtP x.n.data.toList x.v.data.toList x.f x.fn.data.toList x.t.data.toList).toArray⟩) ∧ Below w.heap.size w w' := by
  obtain ⟨n, v, f, fn, t⟩ := x
  unfold entV
  simp only at h1 h2 h3 h4 ⊢
  have hb0 := (Below.refl w.heap.size w).alloc (Nat.le_refl _) (.cells #[.string n, .string v, .bool f, .string fn, .string t] 50)
  have hn0 := Go.heap_alloc_new w (.cells #[.string n, .string v, .bool f, .string fn, .string t] 50)
  have hs0 : (w.alloc (.cells #[.string n, .string v, .bool f, .string fn, .string t] 50)).heap.size = w.heap.size + 1 := by simp
  have hnl := nm_len n.data.toList
  rw [size_list] at hnl
  go_enter Tryd.func35, Tryd.ntmps35
  go_wp2_with fail
  refine (refName_any n (by omega) _).mono ?_
  rintro e w1 ⟨rfl, hb1⟩
  have hn1 : w1.heap[w.heap.size]? = some (.cells #[.string n, .string v, .bool f, .string fn, .string t] 50) := by rw [hb1.block _ (by omega), hn0]
  have q1 : w1.cell? ⟨w.heap.size, 1, none⟩ = some (.string v) := by simp [World.cell?, hn1]
  have q2 : w1.cell? ⟨w.heap.size, 2, none⟩ = some (.bool f) := by simp [World.cell?, hn1]
  have q3 : w1.cell? ⟨w.heap.size, 3, none⟩ = some (.string fn) := by simp [World.cell?, hn1]
  have q4 : w1.cell? ⟨w.heap.size, 4, none⟩ = some (.string t) := by simp [World.cell?, hn1]
  have hb01 := bs hb0 hb1
  clear hn0 hs0
  cases f
  · have hvl : (ends [13, 10] v.data.toList).length ≤ 6000 := by
      have := ends_len [13, 10] v.data.toList
      rw [size_list] at this
      simp only [List.length_cons, List.length_nil] at this
      omega
    go_wp2_with fail
    refine (refPairs_any v (by omega) _).mono ?_
    rintro e w2 ⟨rfl, hb2⟩
    go_wp2_with fail
    go_ret
    refine ⟨?_, bs hb01 hb2⟩
    refine str_of20 ?_
    unfold prtP head1 carr
    simp
  · have hml := nm_len fn.data.toList
    rw [size_list] at hml
    have htl := typ_len t.data.toList
    rw [size_list] at htl
    have k0 : ¬ 9223372036854775807 < 38 + (nm n.data.toList).length + 1 + 12 := by omega
    have k1 : ¬ 9223372036854775807 < 38 + (nm n.data.toList).length + 1 + 12 + (nm fn.data.toList).length := by omega
    have k2 : ¬ 9223372036854775807 < 38 + (nm n.data.toList).length + 1 + 12 + (nm fn.data.toList).length + 17 := by omega
    have k3 : ¬ 9223372036854775807 < 38 + (nm n.data.toList).length + 1 + 12 + (nm fn.data.toList).length + 17 + (typ t.data.toList).length := by omega
    have k4 : ¬ 9223372036854775807 < 38 + (nm n.data.toList).length + 1 + 12 + (nm fn.data.toList).length + 17 + (typ t.data.toList).length + 4 := by omega
    have k5 : ¬ 9223372036854775807 < 38 + (nm n.data.toList).length + 1 + 12 + (nm fn.data.toList).length + 17 + (typ t.data.toList).length + 4 + v.size := by omega
    have hS1 : w1.cell? ⟨w.heap.size, 1, none⟩ = some (.string v) ∧ w1.cell? ⟨w.heap.size, 3, none⟩ = some (.string fn) ∧ w1.cell? ⟨w.heap.size, 4, none⟩ = some (.string t) ∧ w.heap.size < w1.heap.size ∧ Below w1.heap.size w1 w1 := ⟨q1, q3, q4, (Array.getElem?_eq_some_iff.1 hn1).1, Below.refl _ _⟩
    go_wp2_with fail
    go_region_held3 (fun W => W.cell? ⟨w.heap.size, 1, none⟩ = some (.string v) ∧ W.cell? ⟨w.heap.size, 3, none⟩ = some (.string fn) ∧ W.cell? ⟨w.heap.size, 4, none⟩ = some (.string t) ∧ w.heap.size < w1.heap.size ∧ Below w1.heap.size w1 W) (first | assumption | exact refS_drew (by assumption) | exact refS_kept (by assumption) (by assumption)) ((first
      | (go_at_call 43; refine (refName_any fn (by omega) _).mono ?_; rintro e w2 ⟨rfl, hb2⟩)
      | (go_at_call 27; refine (refType_any t (by omega) _).mono ?_; rintro e w2 ⟨rfl, rfl⟩)))
    all_goals
      refine take_world (fun W => W.cell? ⟨w.heap.size, 1, none⟩ = some (.string v) ∧ W.cell? ⟨w.heap.size, 3, none⟩ = some (.string fn) ∧ W.cell? ⟨w.heap.size, 4, none⟩ = some (.string t) ∧ w.heap.size < w1.heap.size ∧ Below w1.heap.size w1 W) (by assumption) ?_
      rintro ⟨p1, p3, p4, hlt, hbW⟩
      go_wp2_with fail
      go_ret
      refine ⟨?_, bs hb01 hbW⟩
      refine str_of20 ?_
      unfold prtP head1 head2 head3 carr
      simp
end Go.Proofs.YtapbljaohhcpoaaDoor
