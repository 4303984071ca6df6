/-
  colour.Parts, colour.Show: the walks.
-/
import Derived.Test.YtiflaniobnjlpaaDoorColour
import Derived.Test.YtiflaniobnjlpaaDoorIb
import Derived.Test.YtiflaniobnjlpaaDoorPlainShow
import Derived.Test.YtiflaniobnjlpaaDoorBytesM
import Derived.StillTactics
import Derived.Deep.RegionHeld3
import Derived.Lib.QuoteBits
namespace Go.Proofs.YtiflaniobnjlpaaDoor
open Go.RowKit PT

theorem or_sixteen (n d : Nat) (hn : n < 16777216) (hd : d < 16) : bits .or .i64 ((n : Int) * 16) (d : Int) = (n : Int) * 16 + (d : Int) := by
  have e : (n * 16) ||| d = n * 16 + d := by
    have := Nat.shiftLeft_add_eq_or_of_lt (i := 4) (b := d) (by omega) n
    rw [Nat.shiftLeft_eq] at this
    exact this.symm
  show IntKind.i64.wrap ((BitVec.ofInt 64 ((n * 16 : Nat) : Int) ||| BitVec.ofInt 64 ((d : Nat) : Int)).toNat : Int) = _
  rw [BitVec.toNat_or, Go.ofInt_u64 _ (by omega), Go.ofInt_u64 d (by omega), e]
  rw [Lib.wrap_i64_small _ (by omega)]
  omega
theorem lit_mark (w : World) (b : Nat) (cs : Array Value) (hb : b = w.heap.size) : (convert 45 45 (.slice (some ⟨b, 0, none⟩) 1 1)).run Tryd.prog (w.alloc (.cells cs 5)) = .ok (.slice (some ⟨b, 0, none⟩) 1 1) ((w.alloc (.cells cs 5)).freeze ⟨b, cs.size, none⟩ 1) := by
  subst hb
  have hsh : (w.alloc (.cells cs 5)).shape? w.heap.size = some (5, cs.size) := by
    simp [World.shape?, World.alloc, -World.alloc_eq]
  simp [convert, run_underlying Tryd.underlying45, run_underlying Tryd.underlying5, markStringish, hsh, Result.andThen]
theorem OM.lit (w : World) (c : UInt8) : OM w.heap.size [c] (.slice (some ⟨w.heap.size, 0, none⟩) 1 1) ((w.alloc (.cells #[.int .u8 c.toNat] 5)).freeze ⟨w.heap.size, 1, none⟩ 1) := by
  refine ⟨w.heap.size, 1, #[.int .u8 c.toNat], (1, 2), rfl, Nat.le_refl _, ?_, .inr (Nat.le_refl _), Nat.le_refl _, by unfold maxLen; omega, rfl, rfl⟩
  show ((w.heap.push _).modify w.heap.size _)[w.heap.size]? = _
  rw [Array.getElem?_modify, if_pos rfl, Array.getElem?_push_size]
  rfl
theorem below_lit (w : World) (c : Value) : Below w.heap.size w ((w.alloc (.cells #[c] 5)).freeze ⟨w.heap.size, 1, none⟩ 1) := by
  refine ⟨rfl, rfl, rfl, by simp [World.freeze, World.alloc, -World.alloc_eq], fun k hk => ?_⟩
  have h1 : w.heap.size ≠ k := by omega
  simp [World.freeze, World.alloc, -World.alloc_eq, Array.getElem?_modify, Array.getElem?_push, h1, Ne.symm h1]

theorem results_tmp4 {fn : Func} {t u v x : Tmp} (h : fn.results = #[.tmp t, .tmp u, .tmp v, .tmp x]) (tmps : Array Value) (P : Program) (w : World) :
    (results fn tmps).run P w = .ok (.tuple #[tmps.getD t undef, tmps.getD u undef, tmps.getD v undef, tmps.getD x undef]) w := by
  simp [results, h]

set_option maxHeartbeats 1000000 in
set_option maxRecDepth 100000 in
theorem parts_no (s : ByteArray) (hc : isCol s.data.toList = false) (w : World) :
    Calls Tryd.prog 19 #[.string s] w fun e w' => e = .returned (.tuple #[.int .u8 0, .int .u8 0, .int .u8 0, .int .i64 1]) ∧ Below w.heap.size w w' := by
  go_enter Tryd.func19, Tryd.ntmps19
  go_wp2_with fail
  refine (simple_any s _).mono ?_
  rintro e w1 ⟨rfl, hb1⟩
  rw [hc]
  go_wp2_with fail
  (try simp only [Exit.inBlock, Exit.then])
  refine bodyPost_ret (results_tmp4 rfl _ _ _) rfl ?_
  exact ⟨rfl, hb1⟩

set_option maxHeartbeats 1000000 in
set_option maxRecDepth 100000 in
theorem parts_yes (s : ByteArray) (hc : isCol s.data.toList = true) (w : World) :
    Calls Tryd.prog 19 #[.string s] w fun e w' => e = .returned (.tuple #[.int .u8 (partN s.data.toList 1), .int .u8 (partN s.data.toList 3), .int .u8 (partN s.data.toList 5), .int .i64 0]) ∧ Below w.heap.size w w' := by
  have hz : s.size = 7 := by
    obtain ⟨r, hr, h6, _⟩ := isCol_shape _ hc
    rw [← size_list, hr]; simp [h6]
  have hC := Lib.hid hc
  clear hc
  go_enter Tryd.func19, Tryd.ntmps19
  go_wp2_with fail
  refine (simple_any s _).mono ?_
  rintro e w1 ⟨rfl, hb1⟩
  rw [hC.out]
  go_wp2_with fail
  go_loopw [7, 6] (fun i v wr => ∃ k : Nat, 1 ≤ k ∧ k ≤ 7 ∧ i = .int .i64 k ∧ v = .int .i64 (numAt s.data.toList k) ∧ Below w.heap.size w wr) (fun i _ _ => 7 - (intOf i).toNat)
  case atStart => exact ⟨1, by omega, by omega, rfl, by rw [numAt_one]; rfl, hb1⟩
  case round =>
    obtain ⟨k, hk1, hk, rfl, rfl, hbel⟩ := hrel
    by_cases hlt : k < 7
    · have hlt' : (k : Int) < 7 := by omega
      have hks : k < s.size := by omega
      have hd : digN s[k] < 16 := by
        have h := isCol_dig _ hC.out k hk1 hlt
        rwa [show s.data.toList.getD k 0 = s[k] by simp [List.getD, hks]; rfl] at h
      have hS := Lib.hid (numAt_succ s.data.toList k hk1)
      have hG := Lib.hid (show s.data.toList.getD k 0 = s[k] by simp [List.getD, hks]; rfl)
      have hL := numAt_lt _ hC.out k hk1 (by omega)
      have hor := or_sixteen (numAt s.data.toList k) (digN s[k]) hL hd
      have hX := Lib.hid (hex_at s[k] hd)
      have hw1 : IntKind.i64.wrap ((numAt s.data.toList k : Int) * 16) = (numAt s.data.toList k : Int) * 16 := IntWalk.i64_in _ (by omega)
      go_wp2_with fail
      refine (lower_any s _ (by omega)).mono ?_
      rintro e w2 ⟨rfl, hb2⟩
      have hT : ∃ t : ByteArray, t = ⟨(low s.data.toList).toArray⟩ ∧ t.size = 7 ∧ ∀ h : k < t.size, t[k] = lowB s[k] :=
        ⟨_, rfl, by rw [size_mk, low_length, size_list, hz], fun h => by
          have e : (low s.data.toList)[k]'(by rw [low_length, size_list]; omega) = lowB s[k] := by unfold low; rw [List.getElem_map]; rfl
          rw [← e]; rfl⟩
      obtain ⟨t, ht, htz, hti⟩ := hT
      rw [← ht]
      have hkt : k < t.size := by omega
      have hti' := Lib.hid (hti hkt)
      clear hti ht
      go_wp2_with fail
      refine (Tryd.strings_IndexByte _ t[k].toNat _).mono ?_
      rintro e w3 ⟨rfl, rfl⟩
      have hR : Lib.indexByte (ByteArray.mk #[48, 49, 50, 51, 52, 53, 54, 55, 56, 57, 97, 98, 99, 100, 101, 102]).data.toList ((t[k].toNat : Int).toNat).toUInt8 = digN s[k] := by
        rw [show ((t[k].toNat : Int).toNat).toUInt8 = t[k] by simp, hti'.out]; exact hX.out
      rw [hR]
      go_wp2_with fail
      go_roundw
      case rel => exact ⟨k + 1, by omega, by omega, by go_num, by rw [hS.out, hG.out]; go_num, bs hbel hb2⟩
      case measure => simp [intOf]; omega
    · obtain rfl : k = 7 := by omega
      have hP := numAt_seven _ hC.out
      have hB := partN_lt _ hC.out
      have hlt' : decide ((7 : Int) < 7) = false := by decide
      go_wp2_with fail
      (try simp only [Exit.inBlock, Exit.then])
      refine bodyPost_ret (results_tmp4 rfl _ _ _) rfl ?_
      have e1 : ((partN s.data.toList 1 : Int) * 65536 + (partN s.data.toList 3 : Int) * 256 + (partN s.data.toList 5 : Int)) / 65536 = (partN s.data.toList 1 : Int) := by omega
      have e2 : ((partN s.data.toList 1 : Int) * 65536 + (partN s.data.toList 3 : Int) * 256 + (partN s.data.toList 5 : Int)) / 256 % 256 = (partN s.data.toList 3 : Int) := by omega
      have e3 : ((partN s.data.toList 1 : Int) * 65536 + (partN s.data.toList 3 : Int) * 256 + (partN s.data.toList 5 : Int)) % 256 = (partN s.data.toList 5 : Int) := by omega
      rw [e1, e2, e3]
      exact ⟨rfl, hbel⟩

theorem hex_at16 (j : Nat) (h : j < 16) : (ByteArray.mk #[48, 49, 50, 51, 52, 53, 54, 55, 56, 57, 97, 98, 99, 100, 101, 102])[j] = hexl j := by
  have : ∀ i : Fin 16, (ByteArray.mk #[48, 49, 50, 51, 52, 53, 54, 55, 56, 57, 97, 98, 99, 100, 101, 102])[i.val]'(i.isLt) = hexl i.val := by decide
  exact this ⟨j, h⟩
theorem show_step (r g b : UInt8) (k : Nat) (h : k < 3) : ∃ c : UInt8, [r, g, b][k]? = some c ∧ (showC r g b).take (1 + 2 * (k + 1)) = (showC r g b).take (1 + 2 * k) ++ [hexl (c.toNat / 16), hexl (c.toNat % 16)] := by
  obtain rfl | rfl | rfl : k = 0 ∨ k = 1 ∨ k = 2 := by omega
  · exact ⟨r, rfl, rfl⟩
  · exact ⟨g, rfl, rfl⟩
  · exact ⟨b, rfl, rfl⟩
theorem show_idx (r g b : UInt8) (k : Nat) (h : k < 3) (c : UInt8) (hc : [r, g, b][k]? = some c) (W : World) : (Instr.index 46 (.agg #[.int .u8 r.toNat, .int .u8 g.toNat, .int .u8 b.toNat]) (.int .i64 k)).run Tryd.prog W = .ok (.int .u8 c.toNat) W := by
  obtain rfl | rfl | rfl : k = 0 ∨ k = 1 ∨ k = 2 := by omega
  all_goals
    simp at hc
    subst hc
    kernel_rfl
theorem and15_all : ∀ n : Fin 256, bits .and .u8 (n.val : Int) 15 = ((n.val % 16 : Nat) : Int) := by decide +kernel
theorem and15_u8 (c : UInt8) : bits .and .u8 (c.toNat : Int) 15 = ((c.toNat % 16 : Nat) : Int) := and15_all ⟨c.toNat, c.toNat_lt⟩

set_option maxHeartbeats 1000000 in
set_option maxRecDepth 100000 in
theorem show_any (r g b : UInt8) (w : World) :
    Calls Tryd.prog 21 #[.int .u8 r.toNat, .int .u8 g.toNat, .int .u8 b.toNat] w fun e w' => e = .returned (.string ⟨(showC r g b).toArray⟩) ∧ Below w.heap.size w w' := by
  have hcv := lit_mark w w.heap.size #[.int .u8 35] rfl
  have hown0 := OM.lit w 35
  have hbel0 := below_lit w (.int .u8 35)
  go_enter Tryd.func21, Tryd.ntmps21
  go_wp2_with fail
  have hown0' : OM w.heap.size ((showC r g b).take 1) (.slice (some ⟨w.heap.size, 0, none⟩) 1 1) ((w.alloc (.cells #[.int .u8 35] 5)).freeze ⟨w.heap.size, 1, none⟩ 1) := hown0
  have hall : ∃ A : ByteArray, A = ⟨#[48, 49, 50, 51, 52, 53, 54, 55, 56, 57, 97, 98, 99, 100, 101, 102]⟩ ∧ A.size = 16 ∧ ∀ (j : Nat) (h : j < A.size), A[j] = hexl j :=
    ⟨_, rfl, rfl, fun j h => hex_at16 j h⟩
  obtain ⟨A, hA, hA1, hA2⟩ := hall
  rw [← hA]
  have HA := Lib.hid hA2
  clear hA hA2 hcv hown0
  go_loopw [16, 7] (fun i v wr => ∃ k : Nat, k ≤ 3 ∧ i = .int .i64 k ∧ OM w.heap.size ((showC r g b).take (1 + 2 * k)) v wr ∧ Below w.heap.size w wr) (fun i _ _ => 3 - (intOf i).toNat)
  case atStart => exact ⟨0, by omega, rfl, hown0', hbel0⟩
  case round =>
    obtain ⟨k, hk, rfl, hown, hbel⟩ := hrel
    have hsz := hbel.size
    by_cases hlt : k < 3
    · obtain ⟨c, hi, hT⟩ := show_step r g b k hlt
      have hT' := Lib.hid hT
      have hlt' : (k : Int) < 3 := by omega
      have hix := show_idx r g b k hlt c hi
      have hcb : c.toNat < 256 := c.toNat_lt
      have hq1 : (0 : Int) ≤ (c.toNat : Int) / 16 := by omega
      have hq2 : (c.toNat : Int) / 16 < 16 := by omega
      have hand : bits .and .u8 (c.toNat : Int) 15 = (c.toNat : Int) % 16 := (and15_u8 c).trans (by omega)
      have hq3 : (0 : Int) ≤ (c.toNat : Int) % 16 := by omega
      have hq4 : (c.toNat : Int) % 16 < 16 := by omega
      have hj1 : c.toNat / 16 < A.size := by omega
      have hj2 : c.toNat % 16 < A.size := by omega
      have hA1' : A[c.toNat / 16] = hexl (c.toNat / 16) := HA.out _ hj1
      have hA2' : A[c.toNat % 16] = hexl (c.toNat % 16) := HA.out _ hj2
      have hn1 : ((c.toNat : Int) / 16).toNat = c.toNat / 16 := by omega
      have hn2 : ((c.toNat : Int) % 16).toNat = c.toNat % 16 := by omega
      clear hi hT
      have hc2 : ∀ j u, (Lib.byteCells [hexl (c.toNat / 16), hexl (c.toNat % 16)])[j]? = some u → ((wr.alloc (.cells #[.int .u8 (hexl (c.toNat / 16)).toNat, .int .u8 (hexl (c.toNat % 16)).toNat] 5)).drew).cell? ((⟨wr.heap.size, 0, none⟩ : Addr).add j) = some u := by
        intro j u hj
        have hn := Go.heap_alloc_new wr (.cells #[.int .u8 (hexl (c.toNat / 16)).toNat, .int .u8 (hexl (c.toNat % 16)).toNat] 5)
        rw [addr_add, Nat.zero_add]
        show (wr.alloc _).cell? _ = _
        simp only [World.cell?, hn]
        simpa [Lib.byteCells] using hj
      have Hc2 := Lib.hid hc2
      clear hc2
      have hown2 : OM w.heap.size ((showC r g b).take (1 + 2 * k)) _ (wr.alloc (.cells #[.int .u8 (hexl (c.toNat / 16)).toNat, .int .u8 (hexl (c.toNat % 16)).toNat] 5)).drew := hown.alloc _
      have hsz2 : w.heap.size ≤ (wr.alloc (.cells #[.int .u8 (hexl (c.toNat / 16)).toNat, .int .u8 (hexl (c.toNat % 16)).toNat] 5)).drew.heap.size := by show _ ≤ (wr.alloc _).heap.size; simp; omega
      have hbel2 : Below w.heap.size w (wr.alloc (.cells #[.int .u8 (hexl (c.toNat / 16)).toNat, .int .u8 (hexl (c.toNat % 16)).toNat] 5)).drew := (hbel.alloc hsz _).drew
      go_wp2_with fail
      have hlen2 : ((showC r g b).take (1 + 2 * k)).length + [hexl (c.toNat / 16), hexl (c.toNat % 16)].length < 70368744177664 := by
        rw [List.length_take]
        simp only [List.length_cons, List.length_nil]
        omega
      go_region_held3 (fun _ => True) (exact True.intro) ((first
        | (refine step_append_bytesM rfl _ _ rfl rfl [hexl (c.toNat / 16), hexl (c.toNat % 16)] wr.heap.size rfl Hc2.out hown2 hlen2 hsz2 ?_; intro v' w3 hown3 hb3)))
      all_goals (try go_wp2_with fail)
      all_goals
        go_roundw
        case rel => exact ⟨k + 1, by omega, by go_num, by rw [hT'.out]; exact hown3, hbel2.trans hb3⟩
        case measure => simp [intOf]; omega
    · obtain rfl : k = 3 := by omega
      have hlt' : decide ((3 : Int) < 3) = false := by decide
      have hcb := hown.conv
      rw [show (showC r g b).take (1 + 2 * 3) = showC r g b from rfl] at hcb
      go_wp2_with fail
      go_ret
      exact ⟨rfl, hbel⟩
end Go.Proofs.YtiflaniobnjlpaaDoor
