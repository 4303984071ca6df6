/-
  The law UrlencSigns: the walk.
-/
import Derived.Test.YtepggnnikikijaaDoorWalkUrlencBack
namespace Go.Proofs.YtepggnnikikijaaDoor
open Go.RowKit PT

theorem okU_cases (c : UInt8) (h : okU c = true) : (97 ≤ c.toNat ∧ c.toNat ≤ 122) ∨ (65 ≤ c.toNat ∧ c.toNat ≤ 90) ∨ (48 ≤ c.toNat ∧ c.toNat ≤ 57) ∨ c.toNat = 42 ∨ c.toNat = 45 ∨ c.toNat = 46 ∨ c.toNat = 95 ∨ c.toNat = 43 ∨ c.toNat = 37 ∨ c.toNat = 38 ∨ c.toNat = 61 := by
  have : ∀ n : Fin 256, okU (UInt8.ofNat n.val) = true → ((97 ≤ n.val ∧ n.val ≤ 122) ∨ (65 ≤ n.val ∧ n.val ≤ 90) ∨ (48 ≤ n.val ∧ n.val ≤ 57) ∨ n.val = 42 ∨ n.val = 45 ∨ n.val = 46 ∨ n.val = 95 ∨ n.val = 43 ∨ n.val = 37 ∨ n.val = 38 ∨ n.val = 61) := by decide +kernel
  have h' := this ⟨c.toNat, c.toNat_lt⟩
  simp at h'
  exact h' h
set_option maxHeartbeats 4000000 in
set_option maxRecDepth 100000 in
theorem urlencSigns_walk (es : List Ent) (v : Value) (w : World) (hE : Ents es v w) (hT : Tables w) :
    Calls Tryd.prog 7 #[v] w fun e w' => e = .returned (.bool true) ∧ Below w.heap.size w w' := by
  go_enter Tryd.func7, Tryd.ntmps7
  go_wp2_with fail
  refine (wakes19_any _ hT).mono ?_
  rintro e w1 ⟨rfl, hb1⟩
  have hE1 := hE.kept hb1
  have hT1 := hT.kept hb1
  go_wp2_with fail
  refine (long19_any es v _ hE1).mono ?_
  rintro e w' ⟨rfl, rfl⟩
  cases hl : longB es
  · obtain ⟨h60, hS⟩ := long19_no hl
    clear hl
    have hz : (encP (told es)).length ≤ 60 * 40001 := by
      rw [encP_told]
      have := jn_prt_len es hS
      have : es.length * 40001 ≤ 60 * 40001 := Nat.mul_le_mul_right _ h60
      omega
    go_wp2_with fail
    refine (urlEncode_any es v _ hE1 hT1 (by omega) hS).mono ?_
    rintro e w2 ⟨rfl, hb2⟩
    have hok := okU_encP (told es)
    have hs : ∃ s : ByteArray, s = ⟨(encP (told es)).toArray⟩ ∧ s.size ≤ 60 * 40001 ∧ ∀ k (h : k < s.size), okU s[k] = true := by
      refine ⟨_, rfl, by rw [size_mk]; exact hz, fun k h => hok _ ?_⟩
      have h' : k < (encP (told es)).length := by rwa [size_mk] at h
      exact List.getElem_mem h'
    obtain ⟨s, hs, hsz, hsk⟩ := hs
    rw [← hs]
    have Hs := Lib.hid hsk
    clear hs hok hsk hz
    go_wp2_with fail
    go_loop [15] (fun i => ∃ k : Nat, k ≤ s.size ∧ i = .int .i64 k) (fun i => s.size - (intOf i).toNat)
    case atStart => exact ⟨0, Nat.zero_le _, rfl⟩
    case round =>
      obtain ⟨k, hk, rfl⟩ := hrel
      by_cases hlt : k < s.size
      · have hc := okU_cases s[k] (Hs.out k hlt)
        rcases hc with hc | hc | hc | hc | hc | hc | hc | hc | hc | hc | hc
        all_goals
          (try obtain ⟨hx, hy⟩ := hc)
          (try have hx' : (97 : Int) ≤ (s[k].toNat : Int) := by omega)
          (try have hy' : (s[k].toNat : Int) ≤ (122 : Int) := by omega)
          (try have hx' : (65 : Int) ≤ (s[k].toNat : Int) := by omega)
          (try have hy' : (s[k].toNat : Int) ≤ (90 : Int) := by omega)
          (try have hx' : (48 : Int) ≤ (s[k].toNat : Int) := by omega)
          (try have hy' : (s[k].toNat : Int) ≤ (57 : Int) := by omega)
          go_wp2_with fail
          go_round
          case rel => exact ⟨k + 1, by omega, by go_num⟩
          case measure => simp [intOf]; omega
      · obtain rfl : k = s.size := by omega
        go_wp2_with fail
        go_ret
        exact ⟨rfl, bs hb1 hb2⟩
  · go_wp2_with fail
    go_ret
    exact ⟨rfl, hb1⟩
end Go.Proofs.YtepggnnikikijaaDoor
