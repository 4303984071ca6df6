/-
  ref01.Sign: the walk.
-/
import Derived.Test.YtjhddigcdeakcaaDoorBase
import Derived.Test.YtjhddigcdeakcaaDoorPlainUtf
namespace Go.Proofs.YtjhddigcdeakcaaDoor
open Go.RowKit PT

theorem ret_sg {s : ByteArray} {k : Nat} {n : Nat} {g : Bool} (h : sgn s k = (n, g)) : Ending.returned (.tuple #[.int .i64 (n : Int), .bool g]) = .returned (.tuple #[.int .i64 ((sgn s k).1 : Int), .bool (sgn s k).2]) := by rw [h]

set_option maxHeartbeats 4000000 in
set_option maxRecDepth 100000 in
theorem sign_long (base low m : Nat) (s : ByteArray) (k : Nat) (hk : k < s.size) (hs : s.size ≤ 1000000) (hc : Cls base low m (B s k)) (w : World) :
    Calls Tryd.prog 33 #[.string s, .int .i64 k] w fun e w' => e = .returned (.tuple #[.int .i64 ((sgn s k).1 : Int), .bool (sgn s k).2]) ∧ w = w' := by
  have hbad := Lib.hid (fun t => sgn_bad s k hc t)
  have hgood := Lib.hid (sgn_good s k hc)
  have hB := B_at s k hk
  have h1 := Lib.hid (pvs_1 s k base)
  rw [hB] at hc
  clear hB
  rcases hc with ⟨rfl, rfl, rfl, ha, hb⟩ | ⟨rfl, rfl, rfl, ha, hb⟩ | ⟨rfl, rfl, rfl, ha, hb⟩
  · have ha' : (194 : Int) ≤ (s[k].toNat : Int) := by omega
    have hc0 : (128 : Int) ≤ (s[k].toNat : Int) := by omega
    have hf1 : (s[k].toNat : Int) < 224 := by omega
    go_enter Tryd.func33, Tryd.ntmps33
    go_wp2_with fail
    go_loop [9, 10] (fun c i => ∃ t : Nat, 1 ≤ t ∧ t ≤ 2 ∧ i = .int .i64 t ∧ c = .int .i64 ((pvs s k 192 t : Nat) : Int) ∧ Hid (∀ j, 1 ≤ j → j < t → Cont (s.size - k) (B s (k + j)) j)) (fun _ i => 2 - (intOf i).toNat)
    case atStart => exact ⟨1, by omega, by omega, rfl, by rw [h1.out, B_at s k hk]; first | rfl | (congr 1; omega), fun j h h' => by omega⟩
    case round =>
      obtain ⟨t, ht1, ht2, rfl, rfl, hC⟩ := hrel
      have hp := pvs_le s k 192 t ht1 (by omega)
      by_cases hin : t ≤ 1
      · have hin' : (t : Int) ≤ (1 : Int) := by omega
        have hB1 := Lib.hid (hbad.out t ht1 hin)
        by_cases hsz : k + t < s.size
        · have hsz' : decide ((s.size : Int) ≤ (k : Int) + (t : Int)) = false := by simp; omega
          have hsz2 : (k : Int) + (t : Int) < (s.size : Int) := by omega
          have hBt := Lib.hid (B_at s (k + t) hsz)
          by_cases hlo : s[k + t].toNat < 128
          · have hlo' : (s[k + t].toNat : Int) < 128 := by omega
            have hS := Lib.hid (hB1.out (fun e => by unfold Cont at e; rw [hBt.out] at e; omega))
            go_wp2_with fail
            go_ret2
            exact ⟨ret_sg hS.out, rfl⟩
          · by_cases hhi : 192 ≤ s[k + t].toNat
            · have hlo' : decide ((s[k + t].toNat : Int) < 128) = false := by simp; omega
              have hhi' : (192 : Int) ≤ (s[k + t].toNat : Int) := by omega
              have hS := Lib.hid (hB1.out (fun e => by unfold Cont at e; rw [hBt.out] at e; omega))
              go_wp2_with fail
              go_ret2
              exact ⟨ret_sg hS.out, rfl⟩
            · have hlo' : decide ((s[k + t].toNat : Int) < 128) = false := by simp; omega
              have hhi' : decide ((192 : Int) ≤ (s[k + t].toNat : Int)) = false := by simp; omega
              have hlo2 : (128 : Int) ≤ (s[k + t].toNat : Int) := by omega
              have hhi2 : (s[k + t].toNat : Int) < 192 := by omega
              have hP := Lib.hid (pvs_succ s k 192 t ht1 (by omega))
              have hC' : Hid (∀ j, 1 ≤ j → j < t + 1 → Cont (s.size - k) (B s (k + j)) j) := fun j h h' => by
                by_cases e : j = t
                · subst e; unfold Cont; rw [hBt.out]; omega
                · exact hC.out j h (by omega)
              go_wp2_with fail
              go_round
              case rel => exact ⟨t + 1, by omega, by omega, by go_num, by rw [hP.out, hBt.out]; congr 1; omega, hC'⟩
              case measure => simp [intOf]; omega
        · have hsz' : (s.size : Int) ≤ (k : Int) + (t : Int) := by omega
          have hS := Lib.hid (hB1.out (fun e => by unfold Cont at e; omega))
          go_wp2_with fail
          go_ret2
          exact ⟨ret_sg hS.out, rfl⟩
      · obtain rfl : t = 2 := by omega
        have hG := Lib.hid (hgood.out (fun j h h' => hC.out j h (by omega)))
        have hp0 : (0 : Int) ≤ ((pvs s k 192 2 : Nat) : Int) := by omega
        generalize pvs s k 192 2 = v at *
        by_cases hb : bad 128 v
        · have hS := hG.out.trans (if_pos hb)
          have HS := Lib.hid hS
          unfold bad at hb
          clear hS
          by_cases b1 : v < 128
          · have b1' : (v : Int) < 128 := by omega
            go_wp2_with fail
            go_ret2
            exact ⟨ret_sg HS.out, rfl⟩
          · have b1' : decide ((v : Int) < 128) = false := by simp; omega
            by_cases b2 : 1114111 < v
            · have b2' : (1114111 : Int) < (v : Int) := by omega
              go_wp2_with fail
              go_ret2
              exact ⟨ret_sg HS.out, rfl⟩
            · have b2' : decide ((1114111 : Int) < (v : Int)) = false := by simp; omega
              have b3' : (55296 : Int) ≤ (v : Int) := by omega
              have b4' : (v : Int) < 57344 := by omega
              go_wp2_with fail
              go_ret2
              exact ⟨ret_sg HS.out, rfl⟩
        · have hS := hG.out.trans (if_neg hb)
          have HS := Lib.hid hS
          unfold bad at hb
          clear hS
          have b1' : decide ((v : Int) < 128) = false := by simp; omega
          have b2' : decide ((1114111 : Int) < (v : Int)) = false := by simp; omega
          have e2 : decide ((65535 : Int) < (v : Int)) = decide (65535 < v) := by simp; omega
          by_cases b3 : 55296 ≤ v
          · have b3' : (55296 : Int) ≤ (v : Int) := by omega
            have b4' : decide ((v : Int) < 57344) = false := by simp; omega
            go_wp2_with fail
            go_ret2
            exact ⟨ret_sg HS.out, rfl⟩
          · have b3' : decide ((55296 : Int) ≤ (v : Int)) = false := by simp; omega
            go_wp2_with fail
            go_ret2
            exact ⟨ret_sg HS.out, rfl⟩
  · have ha' : (194 : Int) ≤ (s[k].toNat : Int) := by omega
    have hc0 : (128 : Int) ≤ (s[k].toNat : Int) := by omega
    have hf1 : (224 : Int) ≤ (s[k].toNat : Int) := by omega
    have hf2 : (s[k].toNat : Int) < 240 := by omega
    go_enter Tryd.func33, Tryd.ntmps33
    go_wp2_with fail
    go_loop [9, 10] (fun c i => ∃ t : Nat, 1 ≤ t ∧ t ≤ 3 ∧ i = .int .i64 t ∧ c = .int .i64 ((pvs s k 224 t : Nat) : Int) ∧ Hid (∀ j, 1 ≤ j → j < t → Cont (s.size - k) (B s (k + j)) j)) (fun _ i => 3 - (intOf i).toNat)
    case atStart => exact ⟨1, by omega, by omega, rfl, by rw [h1.out, B_at s k hk]; first | rfl | (congr 1; omega), fun j h h' => by omega⟩
    case round =>
      obtain ⟨t, ht1, ht2, rfl, rfl, hC⟩ := hrel
      have hp := pvs_le s k 224 t ht1 (by omega)
      by_cases hin : t ≤ 2
      · have hin' : (t : Int) ≤ (2 : Int) := by omega
        have hB1 := Lib.hid (hbad.out t ht1 hin)
        by_cases hsz : k + t < s.size
        · have hsz' : decide ((s.size : Int) ≤ (k : Int) + (t : Int)) = false := by simp; omega
          have hsz2 : (k : Int) + (t : Int) < (s.size : Int) := by omega
          have hBt := Lib.hid (B_at s (k + t) hsz)
          by_cases hlo : s[k + t].toNat < 128
          · have hlo' : (s[k + t].toNat : Int) < 128 := by omega
            have hS := Lib.hid (hB1.out (fun e => by unfold Cont at e; rw [hBt.out] at e; omega))
            go_wp2_with fail
            go_ret2
            exact ⟨ret_sg hS.out, rfl⟩
          · by_cases hhi : 192 ≤ s[k + t].toNat
            · have hlo' : decide ((s[k + t].toNat : Int) < 128) = false := by simp; omega
              have hhi' : (192 : Int) ≤ (s[k + t].toNat : Int) := by omega
              have hS := Lib.hid (hB1.out (fun e => by unfold Cont at e; rw [hBt.out] at e; omega))
              go_wp2_with fail
              go_ret2
              exact ⟨ret_sg hS.out, rfl⟩
            · have hlo' : decide ((s[k + t].toNat : Int) < 128) = false := by simp; omega
              have hhi' : decide ((192 : Int) ≤ (s[k + t].toNat : Int)) = false := by simp; omega
              have hlo2 : (128 : Int) ≤ (s[k + t].toNat : Int) := by omega
              have hhi2 : (s[k + t].toNat : Int) < 192 := by omega
              have hP := Lib.hid (pvs_succ s k 224 t ht1 (by omega))
              have hC' : Hid (∀ j, 1 ≤ j → j < t + 1 → Cont (s.size - k) (B s (k + j)) j) := fun j h h' => by
                by_cases e : j = t
                · subst e; unfold Cont; rw [hBt.out]; omega
                · exact hC.out j h (by omega)
              go_wp2_with fail
              go_round
              case rel => exact ⟨t + 1, by omega, by omega, by go_num, by rw [hP.out, hBt.out]; congr 1; omega, hC'⟩
              case measure => simp [intOf]; omega
        · have hsz' : (s.size : Int) ≤ (k : Int) + (t : Int) := by omega
          have hS := Lib.hid (hB1.out (fun e => by unfold Cont at e; omega))
          go_wp2_with fail
          go_ret2
          exact ⟨ret_sg hS.out, rfl⟩
      · obtain rfl : t = 3 := by omega
        have hG := Lib.hid (hgood.out (fun j h h' => hC.out j h (by omega)))
        have hp0 : (0 : Int) ≤ ((pvs s k 224 3 : Nat) : Int) := by omega
        generalize pvs s k 224 3 = v at *
        by_cases hb : bad 2048 v
        · have hS := hG.out.trans (if_pos hb)
          have HS := Lib.hid hS
          unfold bad at hb
          clear hS
          by_cases b1 : v < 2048
          · have b1' : (v : Int) < 2048 := by omega
            go_wp2_with fail
            go_ret2
            exact ⟨ret_sg HS.out, rfl⟩
          · have b1' : decide ((v : Int) < 2048) = false := by simp; omega
            by_cases b2 : 1114111 < v
            · have b2' : (1114111 : Int) < (v : Int) := by omega
              go_wp2_with fail
              go_ret2
              exact ⟨ret_sg HS.out, rfl⟩
            · have b2' : decide ((1114111 : Int) < (v : Int)) = false := by simp; omega
              have b3' : (55296 : Int) ≤ (v : Int) := by omega
              have b4' : (v : Int) < 57344 := by omega
              go_wp2_with fail
              go_ret2
              exact ⟨ret_sg HS.out, rfl⟩
        · have hS := hG.out.trans (if_neg hb)
          have HS := Lib.hid hS
          unfold bad at hb
          clear hS
          have b1' : decide ((v : Int) < 2048) = false := by simp; omega
          have b2' : decide ((1114111 : Int) < (v : Int)) = false := by simp; omega
          have e2 : decide ((65535 : Int) < (v : Int)) = decide (65535 < v) := by simp; omega
          by_cases b3 : 55296 ≤ v
          · have b3' : (55296 : Int) ≤ (v : Int) := by omega
            have b4' : decide ((v : Int) < 57344) = false := by simp; omega
            go_wp2_with fail
            go_ret2
            exact ⟨ret_sg HS.out, rfl⟩
          · have b3' : decide ((55296 : Int) ≤ (v : Int)) = false := by simp; omega
            go_wp2_with fail
            go_ret2
            exact ⟨ret_sg HS.out, rfl⟩
  · have ha' : (194 : Int) ≤ (s[k].toNat : Int) := by omega
    have hc0 : (128 : Int) ≤ (s[k].toNat : Int) := by omega
    have hf1 : (240 : Int) ≤ (s[k].toNat : Int) := by omega
    have hf2 : (s[k].toNat : Int) < 245 := by omega
    have hf3 : (224 : Int) ≤ (s[k].toNat : Int) := by omega
    go_enter Tryd.func33, Tryd.ntmps33
    go_wp2_with fail
    go_loop [9, 10] (fun c i => ∃ t : Nat, 1 ≤ t ∧ t ≤ 4 ∧ i = .int .i64 t ∧ c = .int .i64 ((pvs s k 240 t : Nat) : Int) ∧ Hid (∀ j, 1 ≤ j → j < t → Cont (s.size - k) (B s (k + j)) j)) (fun _ i => 4 - (intOf i).toNat)
    case atStart => exact ⟨1, by omega, by omega, rfl, by rw [h1.out, B_at s k hk]; first | rfl | (congr 1; omega), fun j h h' => by omega⟩
    case round =>
      obtain ⟨t, ht1, ht2, rfl, rfl, hC⟩ := hrel
      have hp := pvs_le s k 240 t ht1 (by omega)
      by_cases hin : t ≤ 3
      · have hin' : (t : Int) ≤ (3 : Int) := by omega
        have hB1 := Lib.hid (hbad.out t ht1 hin)
        by_cases hsz : k + t < s.size
        · have hsz' : decide ((s.size : Int) ≤ (k : Int) + (t : Int)) = false := by simp; omega
          have hsz2 : (k : Int) + (t : Int) < (s.size : Int) := by omega
          have hBt := Lib.hid (B_at s (k + t) hsz)
          by_cases hlo : s[k + t].toNat < 128
          · have hlo' : (s[k + t].toNat : Int) < 128 := by omega
            have hS := Lib.hid (hB1.out (fun e => by unfold Cont at e; rw [hBt.out] at e; omega))
            go_wp2_with fail
            go_ret2
            exact ⟨ret_sg hS.out, rfl⟩
          · by_cases hhi : 192 ≤ s[k + t].toNat
            · have hlo' : decide ((s[k + t].toNat : Int) < 128) = false := by simp; omega
              have hhi' : (192 : Int) ≤ (s[k + t].toNat : Int) := by omega
              have hS := Lib.hid (hB1.out (fun e => by unfold Cont at e; rw [hBt.out] at e; omega))
              go_wp2_with fail
              go_ret2
              exact ⟨ret_sg hS.out, rfl⟩
            · have hlo' : decide ((s[k + t].toNat : Int) < 128) = false := by simp; omega
              have hhi' : decide ((192 : Int) ≤ (s[k + t].toNat : Int)) = false := by simp; omega
              have hlo2 : (128 : Int) ≤ (s[k + t].toNat : Int) := by omega
              have hhi2 : (s[k + t].toNat : Int) < 192 := by omega
              have hP := Lib.hid (pvs_succ s k 240 t ht1 (by omega))
              have hC' : Hid (∀ j, 1 ≤ j → j < t + 1 → Cont (s.size - k) (B s (k + j)) j) := fun j h h' => by
                by_cases e : j = t
                · subst e; unfold Cont; rw [hBt.out]; omega
                · exact hC.out j h (by omega)
              go_wp2_with fail
              go_round
              case rel => exact ⟨t + 1, by omega, by omega, by go_num, by rw [hP.out, hBt.out]; congr 1; omega, hC'⟩
              case measure => simp [intOf]; omega
        · have hsz' : (s.size : Int) ≤ (k : Int) + (t : Int) := by omega
          have hS := Lib.hid (hB1.out (fun e => by unfold Cont at e; omega))
          go_wp2_with fail
          go_ret2
          exact ⟨ret_sg hS.out, rfl⟩
      · obtain rfl : t = 4 := by omega
        have hG := Lib.hid (hgood.out (fun j h h' => hC.out j h (by omega)))
        have hp0 : (0 : Int) ≤ ((pvs s k 240 4 : Nat) : Int) := by omega
        generalize pvs s k 240 4 = v at *
        by_cases hb : bad 65536 v
        · have hS := hG.out.trans (if_pos hb)
          have HS := Lib.hid hS
          unfold bad at hb
          clear hS
          by_cases b1 : v < 65536
          · have b1' : (v : Int) < 65536 := by omega
            go_wp2_with fail
            go_ret2
            exact ⟨ret_sg HS.out, rfl⟩
          · have b1' : decide ((v : Int) < 65536) = false := by simp; omega
            by_cases b2 : 1114111 < v
            · have b2' : (1114111 : Int) < (v : Int) := by omega
              go_wp2_with fail
              go_ret2
              exact ⟨ret_sg HS.out, rfl⟩
            · have b2' : decide ((1114111 : Int) < (v : Int)) = false := by simp; omega
              have b3' : (55296 : Int) ≤ (v : Int) := by omega
              have b4' : (v : Int) < 57344 := by omega
              go_wp2_with fail
              go_ret2
              exact ⟨ret_sg HS.out, rfl⟩
        · have hS := hG.out.trans (if_neg hb)
          have HS := Lib.hid hS
          unfold bad at hb
          clear hS
          have b1' : decide ((v : Int) < 65536) = false := by simp; omega
          have b2' : decide ((1114111 : Int) < (v : Int)) = false := by simp; omega
          have e2 : decide ((65535 : Int) < (v : Int)) = decide (65535 < v) := by simp; omega
          by_cases b3 : 55296 ≤ v
          · have b3' : (55296 : Int) ≤ (v : Int) := by omega
            have b4' : decide ((v : Int) < 57344) = false := by simp; omega
            go_wp2_with fail
            go_ret2
            exact ⟨ret_sg HS.out, rfl⟩
          · have b3' : decide ((55296 : Int) ≤ (v : Int)) = false := by simp; omega
            go_wp2_with fail
            go_ret2
            exact ⟨ret_sg HS.out, rfl⟩

set_option maxRecDepth 100000 in
theorem sign_any (s : ByteArray) (k : Nat) (hk : k < s.size) (hs : s.size ≤ 1000000) (w : World) :
    Calls Tryd.prog 33 #[.string s, .int .i64 k] w fun e w' => e = .returned (.tuple #[.int .i64 ((sgn s k).1 : Int), .bool (sgn s k).2]) ∧ w = w' := by
  by_cases h1 : 194 ≤ B s k ∧ B s k < 224
  · exact sign_long 192 128 1 s k hk hs (Or.inl ⟨rfl, rfl, rfl, h1⟩) w
  by_cases h2 : 224 ≤ B s k ∧ B s k < 240
  · exact sign_long 224 2048 2 s k hk hs (Or.inr (Or.inl ⟨rfl, rfl, rfl, h2⟩)) w
  by_cases h3 : 240 ≤ B s k ∧ B s k < 245
  · exact sign_long 240 65536 3 s k hk hs (Or.inr (Or.inr ⟨rfl, rfl, rfl, h3⟩)) w
  by_cases h0 : B s k < 128
  · have hS := Lib.hid (sgn_low s k h0)
    rw [B_at s k hk] at h0
    have h0' : (s[k].toNat : Int) < 128 := by omega
    clear h1 h2 h3
    go_enter Tryd.func33, Tryd.ntmps33
    go_wp2_with fail
    go_ret2
    exact ⟨ret_sg hS.out, rfl⟩
  · have hS := Lib.hid (sgn_none s k h0 h1 h2 h3)
    rw [B_at s k hk] at h0 h1 h2 h3
    have hb : s[k].toNat < 256 := s[k].toNat_lt
    have h0' : decide ((s[k].toNat : Int) < 128) = false := by simp; omega
    by_cases hlo : s[k].toNat < 194
    · have a1 : (s[k].toNat : Int) < 194 := by omega
      clear h1 h2 h3
      go_enter Tryd.func33, Tryd.ntmps33
      go_wp2_with fail
      go_ret2
      exact ⟨ret_sg hS.out, rfl⟩
    · have a1 : (245 : Int) ≤ (s[k].toNat : Int) := by omega
      clear h1 h2 h3
      go_enter Tryd.func33, Tryd.ntmps33
      go_wp2_with fail
      go_ret2
      exact ⟨ret_sg hS.out, rfl⟩
end Go.Proofs.YtjhddigcdeakcaaDoor
