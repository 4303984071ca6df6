/-
  NAMES of elements and attributes: tree.named, ref10.Name: the walks.
-/
import Derived.Test.YtenicjebccdekaaNodes
namespace Go.Proofs.Ytenicjebccdekaa
set_option linter.unusedVariables false
set_option linter.unusedSimpArgs false
open Go.RowKit PT

def smB (c : UInt8) : Bool := decide (97 ≤ c.toNat) && decide (c.toNat ≤ 122)
def otB (c : UInt8) : Bool := (decide (48 ≤ c.toNat) && decide (c.toNat ≤ 57)) || decide (c.toNat = 45)
def snB (c : UInt8) : Bool := smB c || otB c
/-- is a text a name? -/
def nmB (l : List UInt8) : Bool := decide (0 < l.length) && (decide (l.length ≤ 20) && ((match l.head? with | none => false | some c => smB c) && l.all snB))
theorem smB_no {c : UInt8} (h : smB c = false) : c.toNat < 97 ∨ 122 < c.toNat := by
  unfold smB at h
  rcases Bool.and_eq_false_iff.1 h with h | h
  · have := of_decide_eq_false h; omega
  · have := of_decide_eq_false h; omega
theorem smB_yes {c : UInt8} (h : smB c = true) : 97 ≤ c.toNat ∧ c.toNat ≤ 122 := by
  unfold smB at h
  rw [Bool.and_eq_true] at h
  exact ⟨of_decide_eq_true h.1, of_decide_eq_true h.2⟩
theorem otB_yes {c : UInt8} (h : otB c = true) : (48 ≤ c.toNat ∧ c.toNat ≤ 57) ∨ c.toNat = 45 := by
  unfold otB at h
  rw [Bool.or_eq_true, Bool.and_eq_true] at h
  rcases h with h | h
  · exact .inl ⟨of_decide_eq_true h.1, of_decide_eq_true h.2⟩
  · exact .inr (of_decide_eq_true h)
theorem otB_no {c : UInt8} (h : otB c = false) : (c.toNat < 48 ∨ 57 < c.toNat) ∧ c.toNat ≠ 45 := by
  unfold otB at h
  rw [Bool.or_eq_false_iff] at h
  refine ⟨?_, of_decide_eq_false h.2⟩
  rcases Bool.and_eq_false_iff.1 h.1 with h | h
  · have := of_decide_eq_false h; omega
  · have := of_decide_eq_false h; omega
theorem nmB_head {s : ByteArray} (h : 0 < s.size) : s.data.toList.head? = some s[0] := by
  have : s.data.toList = s[0] :: s.data.toList.drop 1 := by have := drop_cons' s 0 h; simpa using this
  rw [this]; rfl
theorem nmB_no0 {s : ByteArray} (h : s.size = 0) : nmB s.data.toList = false := by
  unfold nmB; rw [size_list, decide_eq_false (by omega)]; rfl
theorem nmB_long {s : ByteArray} (h : 20 < s.size) : nmB s.data.toList = false := by
  unfold nmB; rw [size_list, decide_eq_false (show ¬ s.size ≤ 20 by omega)]; simp
theorem nmB_first {s : ByteArray} (h : 0 < s.size) (hn : smB s[0] = false) : nmB s.data.toList = false := by
  unfold nmB; rw [nmB_head h]; simp only; rw [hn]; simp
theorem nmB_at {s : ByteArray} {k : Nat} (h : k < s.size) (hn : snB s[k] = false) : nmB s.data.toList = false := by
  unfold nmB
  have : s.data.toList.all snB = false := by
    rw [← List.take_append_drop k s.data.toList, List.all_append, drop_cons' s k h, List.all_cons, hn]; simp
  rw [this]; simp
theorem nmB_yes {s : ByteArray} (h : 0 < s.size) (h20 : s.size ≤ 20) (hs : smB s[0] = true) (ha : ∀ c ∈ s.data.toList, snB c = true) : nmB s.data.toList = true := by
  unfold nmB
  rw [nmB_head h, size_list, decide_eq_true h, decide_eq_true h20]
  simp only
  rw [hs, List.all_eq_true.2 ha]; rfl
theorem snB_snoc (s : ByteArray) (k : Nat) (h : k < s.size) (ha : ∀ c ∈ s.data.toList.take k, snB c = true) (hc : snB s[k] = true) : ∀ c ∈ s.data.toList.take (k + 1), snB c = true := by
  rw [take_snoc s k h]
  intro c hm
  rcases List.mem_append.1 hm with hm | hm
  · exact ha c hm
  · rw [List.mem_singleton] at hm; rw [hm]; exact hc
set_option maxHeartbeats 4000000 in
set_option maxRecDepth 100000 in
theorem named_any (s : ByteArray) (w : World) :
    Calls Try.prog 119 #[.string s] w fun e w' => e = .returned (.bool (nmB s.data.toList)) ∧ w = w' := by
  by_cases h0 : s.size = 0
  · have hR := Lib.hid (nmB_no0 h0)
    have hs : s = ⟨#[]⟩ := by
      apply ByteArray.ext
      apply Array.eq_empty_of_size_eq_zero
      exact h0
    subst hs
    clear h0
    go_enter Try.func119, Try.ntmps119
    go_wp2_with fail
    go_ret
    exact ⟨ret_bool hR.out.symm, rfl⟩
  · have hp : 0 < s.size := by omega
    have he : (s.toList == []) = false := by
      rw [beq_eq_false_iff_ne, ByteArray.toList_eq]
      intro e
      have := congrArg List.length e
      rw [size_list, List.length_nil] at this
      omega
    have he2 : s.toList.isEmpty = false := by
      rw [ByteArray.toList_eq]
      cases hl : s.data.toList with
      | nil => have := congrArg List.length hl; rw [size_list, List.length_nil] at this; omega
      | cons _ _ => rfl
    by_cases h20 : s.size ≤ 20
    · have h20' : decide ((20 : Int) < (s.size : Int)) = false := by simp; omega
      cases hsm : smB s[0]
      · have hR := Lib.hid (nmB_first hp hsm)
        rcases smB_no hsm with h1 | h1
        · have h1' : (s[0].toNat : Int) < 97 := by omega
          clear hsm h0
          go_enter Try.func119, Try.ntmps119
          go_wp2_with fail
          go_ret
          exact ⟨ret_bool hR.out.symm, rfl⟩
        · have h1' : (122 : Int) < (s[0].toNat : Int) := by omega
          clear hsm h0
          go_enter Try.func119, Try.ntmps119
          go_wp2_with fail
          go_ret
          exact ⟨ret_bool hR.out.symm, rfl⟩
      · obtain ⟨h1, h2⟩ := smB_yes hsm
        have HS := Lib.hid hsm
        have h1' : decide ((s[0].toNat : Int) < 97) = false := by simp; omega
        have h2' : decide ((122 : Int) < (s[0].toNat : Int)) = false := by simp; omega
        clear hsm h0
        go_enter Try.func119, Try.ntmps119
        go_wp2_with fail
        clear h1 h2 h1' h2' he he2
        go_loop [24] (fun i => ∃ k : Nat, k ≤ s.size ∧ i = .int .i64 k ∧ Hid (∀ c ∈ s.data.toList.take k, snB c = true)) (fun i => s.size - (intOf i).toNat)
        case atStart => exact ⟨0, Nat.zero_le _, rfl, Lib.hid (by simp)⟩
        case round =>
          obtain ⟨k, hk, rfl, hA⟩ := hrel
          by_cases hlt : k < s.size
          · have hT := Lib.hid (snB_snoc s k hlt hA.out)
            have hF := Lib.hid (@nmB_at s k hlt)
            generalize hg : s[k] = c at *
            have HG := Lib.hid hg
            cases hsm : smB c
            · cases hot : otB c
              · have hR := Lib.hid (hF.out (by unfold snB; rw [hsm, hot]; rfl))
                have a1 := smB_no hsm
                obtain ⟨a2, a3⟩ := otB_no hot
                have a3' : ((c.toNat : Int) != 45) = true := by simp only [bne_iff_ne, ne_eq]; omega
                clear hsm hot
                rcases a1 with a1 | a1 <;> rcases a2 with a2 | a2
                all_goals (try (exfalso; omega))
                all_goals
                  (try have b1 : (c.toNat : Int) < 97 := by omega)
                  (try have b1 : (122 : Int) < (c.toNat : Int) := by omega)
                  (try have b2 : (c.toNat : Int) < 48 := by omega)
                  (try have b2 : (57 : Int) < (c.toNat : Int) := by omega)
                  go_wp2_with fail
                  go_ret
                  exact ⟨ret_bool hR.out.symm, rfl⟩
              · have hN := Lib.hid (hT.out (by unfold snB; rw [hsm, hot]; rfl))
                have a1 := smB_no hsm
                have a2 := otB_yes hot
                clear hsm hot
                rcases a2 with ⟨a2, a3⟩ | a2
                · have b1 : (c.toNat : Int) < 97 := by omega
                  have b2 : decide ((c.toNat : Int) < 48) = false := by simp; omega
                  have b3 : decide ((57 : Int) < (c.toNat : Int)) = false := by simp; omega
                  go_wp2_with fail
                  go_round
                  case rel => exact ⟨k + 1, by omega, by go_num, hN⟩
                  case measure => simp [intOf]; omega
                · have b1 : (c.toNat : Int) < 97 := by omega
                  have b2 : (c.toNat : Int) < 48 := by omega
                  have b3 : ((c.toNat : Int) != 45) = false := by simp; omega
                  go_wp2_with fail
                  go_round
                  case rel => exact ⟨k + 1, by omega, by go_num, hN⟩
                  case measure => simp [intOf]; omega
            · have hN := Lib.hid (hT.out (by unfold snB; rw [hsm]; rfl))
              obtain ⟨a1, a2⟩ := smB_yes hsm
              have b1 : decide ((c.toNat : Int) < 97) = false := by simp; omega
              have b2 : decide ((122 : Int) < (c.toNat : Int)) = false := by simp; omega
              clear hsm
              go_wp2_with fail
              go_round
              case rel => exact ⟨k + 1, by omega, by go_num, hN⟩
              case measure => simp [intOf]; omega
          · obtain rfl : k = s.size := by omega
            have hA' := hA.out
            rw [List.take_of_length_le (by rw [size_list]; exact Nat.le_refl _)] at hA'
            have hR := Lib.hid (nmB_yes hp h20 HS.out hA')
            clear hA'
            go_wp2_with fail
            go_ret
            exact ⟨ret_bool hR.out.symm, rfl⟩
    · have hR := Lib.hid (nmB_long (s := s) (by omega))
      have h20' : (20 : Int) < (s.size : Int) := by omega
      clear h0
      go_enter Try.func119, Try.ntmps119
      go_wp2_with fail
      go_ret
      exact ⟨ret_bool hR.out.symm, rfl⟩
set_option maxHeartbeats 4000000 in
set_option maxRecDepth 100000 in
theorem refName10_any (s : ByteArray) (hs : s.size ≤ 140737488351232) (w : World) :
    Calls Try.prog 107 #[.string s] w fun e w' => e = .returned (.bool (nmB s.data.toList)) ∧ w = w' := by
  go_enter Try.func107, Try.ntmps107
  go_wp2_with fail
  go_loop [3] (fun i => ∃ k : Nat, k ≤ s.size ∧ i = .int .i64 k ∧ Hid ((∀ c ∈ s.data.toList.take k, snB c = true) ∧ (0 < k → ∀ h : 0 < s.size, smB s[0] = true))) (fun i => s.size - (intOf i).toNat)
  case atStart => exact ⟨0, Nat.zero_le _, rfl, Lib.hid ⟨by simp, fun h => by omega⟩⟩
  case round =>
    obtain ⟨k, hk, rfl, hA⟩ := hrel
    by_cases hlt : k < s.size
    · have hT := Lib.hid (snB_snoc s k hlt hA.out.1)
      have hF := Lib.hid (@nmB_at s k hlt)
      have hF0 := Lib.hid (fun (e : k = 0) (h : smB s[k] = false) => nmB_first (s := s) (by omega) (by subst e; exact h))
      have hS0 := Lib.hid (fun (h : k ≠ 0 ∨ smB s[k] = true) => show 0 < k + 1 → ∀ h : 0 < s.size, smB s[0] = true from fun _ h' => by
        rcases h with h | h
        · exact hA.out.2 (by omega) h'
        · by_cases e : k = 0
          · subst e; exact h
          · exact hA.out.2 (by omega) h')
      generalize hg : s[k] = c at *
      have HG := Lib.hid hg
      cases hsm : smB c
      · have a1 := smB_no hsm
        have b1 : ((97 : Int) ≤ (c.toNat : Int)) ∨ ((c.toNat : Int) < 97) := by omega
        by_cases hk0 : k = 0
        · have hR := Lib.hid (hF0.out hk0 hsm)
          clear hsm hF0 hS0
          subst hk0
          cases hot : otB c
          · obtain ⟨a2, a3⟩ := otB_no hot
            have a3' : ((c.toNat : Int) == 45) = false := intNe (by omega)
            clear hot b1
            rcases a1 with a1 | a1 <;> rcases a2 with a2 | a2
            all_goals (try (exfalso; omega))
            all_goals
              (try have b1 : decide ((97 : Int) ≤ (c.toNat : Int)) = false := by simp; omega)
              (try have b1 : (97 : Int) ≤ (c.toNat : Int) := by omega)
              (try have b2 : decide ((c.toNat : Int) ≤ 122) = false := by simp; omega)
              (try have b3 : decide ((48 : Int) ≤ (c.toNat : Int)) = false := by simp; omega)
              (try have b3 : (48 : Int) ≤ (c.toNat : Int) := by omega)
              (try have b4 : decide ((c.toNat : Int) ≤ 57) = false := by simp; omega)
              (try have b4 : (c.toNat : Int) ≤ 57 := by omega)
              go_wp2_with fail
              go_ret
              exact ⟨ret_bool hR.out.symm, rfl⟩
          · have a2 := otB_yes hot
            clear hot b1
            rcases a2 with ⟨a2, a3⟩ | a2
            · have b1 : decide ((97 : Int) ≤ (c.toNat : Int)) = false := by simp; omega
              have b3 : (48 : Int) ≤ (c.toNat : Int) := by omega
              have b4 : (c.toNat : Int) ≤ 57 := by omega
              go_wp2_with fail
              go_ret
              exact ⟨ret_bool hR.out.symm, rfl⟩
            · have b1 : decide ((97 : Int) ≤ (c.toNat : Int)) = false := by simp; omega
              have b3 : decide ((48 : Int) ≤ (c.toNat : Int)) = false := by simp; omega
              have b5 : ((c.toNat : Int) == 45) = true := by simp; omega
              go_wp2_with fail
              go_ret
              exact ⟨ret_bool hR.out.symm, rfl⟩
        · have hk0' : ((k : Int) == 0) = false := intNe (by omega)
          cases hot : otB c
          · have hR := Lib.hid (hF.out (by unfold snB; rw [hsm, hot]; rfl))
            obtain ⟨a2, a3⟩ := otB_no hot
            have a3' : ((c.toNat : Int) == 45) = false := intNe (by omega)
            clear hot hsm b1 hF0 hS0
            rcases a1 with a1 | a1 <;> rcases a2 with a2 | a2
            all_goals (try (exfalso; omega))
            all_goals
              (try have b1 : decide ((97 : Int) ≤ (c.toNat : Int)) = false := by simp; omega)
              (try have b1 : (97 : Int) ≤ (c.toNat : Int) := by omega)
              (try have b2 : decide ((c.toNat : Int) ≤ 122) = false := by simp; omega)
              (try have b3 : decide ((48 : Int) ≤ (c.toNat : Int)) = false := by simp; omega)
              (try have b3 : (48 : Int) ≤ (c.toNat : Int) := by omega)
              (try have b4 : decide ((c.toNat : Int) ≤ 57) = false := by simp; omega)
              (try have b4 : (c.toNat : Int) ≤ 57 := by omega)
              go_wp2_with fail
              go_ret
              exact ⟨ret_bool hR.out.symm, rfl⟩
          · have hN := Lib.hid (And.intro (hT.out (by unfold snB; rw [hsm, hot]; rfl)) (hS0.out (.inl hk0)))
            have a2 := otB_yes hot
            clear hot hsm b1 hF0 hS0 hk0
            rcases a2 with ⟨a2, a3⟩ | a2
            · have b1 : decide ((97 : Int) ≤ (c.toNat : Int)) = false := by simp; omega
              have b3 : (48 : Int) ≤ (c.toNat : Int) := by omega
              have b4 : (c.toNat : Int) ≤ 57 := by omega
              go_wp2_with fail
              go_round
              case rel => exact ⟨k + 1, by omega, by go_num, hN⟩
              case measure => simp [intOf]; omega
            · have b1 : decide ((97 : Int) ≤ (c.toNat : Int)) = false := by simp; omega
              have b3 : decide ((48 : Int) ≤ (c.toNat : Int)) = false := by simp; omega
              have b5 : ((c.toNat : Int) == 45) = true := by simp; omega
              go_wp2_with fail
              go_round
              case rel => exact ⟨k + 1, by omega, by go_num, hN⟩
              case measure => simp [intOf]; omega
      · have hN := Lib.hid (And.intro (hT.out (by unfold snB; rw [hsm]; rfl)) (hS0.out (.inr hsm)))
        obtain ⟨a1, a2⟩ := smB_yes hsm
        have b1 : (97 : Int) ≤ (c.toNat : Int) := by omega
        have b2 : (c.toNat : Int) ≤ 122 := by omega
        clear hsm hF0 hS0
        by_cases c1 : 48 ≤ c.toNat ∧ c.toNat ≤ 57
        · omega
        · have b4 : decide ((c.toNat : Int) ≤ 57) = false := by simp; omega
          have b3 : (48 : Int) ≤ (c.toNat : Int) := by omega
          have b5 : ((c.toNat : Int) == 45) = false := intNe (by omega)
          clear c1
          go_wp2_with fail
          go_round
          case rel => exact ⟨k + 1, by omega, by go_num, hN⟩
          case measure => simp [intOf]; omega
    · obtain rfl : k = s.size := by omega
      obtain ⟨hA1, hA2⟩ := hA.out
      rw [List.take_of_length_le (by rw [size_list]; exact Nat.le_refl _)] at hA1
      by_cases h0 : s.size = 0
      · have hR := Lib.hid (nmB_no0 h0)
        have h0' : decide (0 < s.size) = false := decide_eq_false (by omega)
        have h0'' : s.size ≤ 0 := by omega
        clear h0 hA1 hA2
        go_wp2_with fail
        go_ret
        exact ⟨ret_bool hR.out.symm, rfl⟩
      · have h0' : (0 : Int) < (s.size : Int) := by omega
        by_cases h20 : s.size ≤ 20
        · have hR := Lib.hid (nmB_yes (by omega) h20 (hA2 (by omega) (by omega)) hA1)
          have h20' : (s.size : Int) ≤ 20 := by omega
          clear hA1 hA2 h0
          go_wp2_with fail
          go_ret
          exact ⟨ret_bool hR.out.symm, rfl⟩
        · have hR := Lib.hid (nmB_long (s := s) (by omega))
          have h20' : decide ((s.size : Int) ≤ 20) = false := decide_eq_false (by omega)
          clear hA1 hA2 h0
          go_wp2_with fail
          go_ret
          exact ⟨ret_bool hR.out.symm, rfl⟩
end Go.Proofs.Ytenicjebccdekaa
