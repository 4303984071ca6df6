/-
  The laws of chapter 20: wakes; the walk of PartsClear.
-/
import Derived.Test.YtapbljaohhcpoaaDoorParts4
import Derived.Test.YtapbljaohhcpoaaDoorSameFiles
import Derived.Test.YtapbljaohhcpoaaDoorOpenTexts
namespace Go.Proofs.YtapbljaohhcpoaaDoor
open Go.RowKit PT

theorem long20_no {es : List Ent} (h : longB es = false) : es.length ≤ 60 ∧ ∀ x ∈ es, Brief x := by
  unfold longB at h
  rw [Bool.or_eq_false_iff] at h
  refine ⟨by have := of_decide_eq_false h.1; omega, fun x hx => ?_⟩
  have hx' := List.any_eq_false.1 h.2 x hx
  unfold longE at hx'
  simp only [Bool.or_eq_true, decide_eq_true_eq, not_or] at hx'
  exact ⟨by omega, by omega, by omega, by omega⟩
def exQ : List Ent := [⟨⟨#[97]⟩, ⟨#[49]⟩, false, ⟨#[]⟩, ⟨#[]⟩⟩]
theorem exQ_clear : clearB exQ [120] = true := by decide +kernel
theorem exQ_text : encP20 [120] exQ = [45, 45, 120, 13, 10, 67, 111, 110, 116, 101, 110, 116, 45, 68, 105, 115, 112, 111, 115, 105, 116, 105, 111, 110, 58, 32, 102, 111, 114, 109, 45, 100, 97, 116, 97, 59, 32, 110, 97, 109, 101, 61, 34, 97, 34, 13, 10, 13, 10, 49, 13, 10, 45, 45, 120, 45, 45, 13, 10] := by decide +kernel
theorem exQ_ents (w : World) : Ents exQ (.slice (some ⟨w.heap.size, 0, none⟩) 1 1) (w.alloc (.cells #[.string ⟨#[97]⟩, .string ⟨#[49]⟩, .bool false, .string ⟨#[]⟩, .string ⟨#[]⟩] 50)) := by
  have hn := Go.heap_alloc_new w (.cells #[.string ⟨#[97]⟩, .string ⟨#[49]⟩, .bool false, .string ⟨#[]⟩, .string ⟨#[]⟩] 50)
  refine .inr ⟨w.heap.size, 0, 1, rfl, by simp, fun j e he i u hu => ?_⟩
  have hf := flat_at exQ j e he i u hu
  rw [Nat.zero_add]
  simp only [World.cell?, hn]
  simpa [exQ, entCells] using hf
set_option maxHeartbeats 1000000 in
set_option maxRecDepth 100000 in
theorem wakes20_any (w : World) (hT : Tables w) :
    Calls Tryd.prog 9 #[] w fun e w' => e = .returned (.bool true) ∧ Below w.heap.size w w' := by
  have hE := exQ_ents w
  have hb0 := (Below.refl w.heap.size w).alloc (Nat.le_refl _) (.cells #[.string ⟨#[97]⟩, .string ⟨#[49]⟩, .bool false, .string ⟨#[]⟩, .string ⟨#[]⟩] 50)
  have hT0 := hT.kept hb0
  have hV : encV exQ [120] = .tuple #[.string ⟨#[45, 45, 120, 13, 10, 67, 111, 110, 116, 101, 110, 116, 45, 68, 105, 115, 112, 111, 115, 105, 116, 105, 111, 110, 58, 32, 102, 111, 114, 109, 45, 100, 97, 116, 97, 59, 32, 110, 97, 109, 101, 61, 34, 97, 34, 13, 10, 13, 10, 49, 13, 10, 45, 45, 120, 45, 45, 13, 10]⟩, .int .i64 0] := by
    unfold encV
    rw [if_pos exQ_clear, exQ_text]
  go_enter Tryd.func9, Tryd.ntmps9
  go_wp2_with fail
  refine (partsEncode_any exQ _ ⟨#[120]⟩ (by decide) (by unfold Brief; decide) _ hE hT0).mono ?_
  rintro e w1 ⟨rfl, hb1⟩
  rw [show encV exQ (ByteArray.mk #[120]).data.toList = _ from hV]
  go_wp2_with fail
  go_ret
  exact ⟨rfl, bs hb0 hb1⟩
theorem pcS_kept {b o : Nat} {P : ByteArray} {es : List Ent} {u : Value} {w1 W W' : World} (h : W.cell? ⟨b, o, none⟩ = some (.string P) ∧ b < w1.heap.size ∧ Below w1.heap.size w1 W ∧ Ents es u W ∧ Tables W) (hb : Below W.heap.size W W') :
    W'.cell? ⟨b, o, none⟩ = some (.string P) ∧ b < w1.heap.size ∧ Below w1.heap.size w1 W' ∧ Ents es u W' ∧ Tables W' := by
  obtain ⟨h0, h1, h2, h3, h4⟩ := h
  have := h2.size
  exact ⟨cellK hb (by omega) h0, h1, h2.trans (hb.mono this), h3.kept hb, h4.kept hb⟩
theorem pcS_drew {b o : Nat} {P : ByteArray} {es : List Ent} {u : Value} {w1 W : World} (h : W.cell? ⟨b, o, none⟩ = some (.string P) ∧ b < w1.heap.size ∧ Below w1.heap.size w1 W ∧ Ents es u W ∧ Tables W) :
    W.drew.cell? ⟨b, o, none⟩ = some (.string P) ∧ b < w1.heap.size ∧ Below w1.heap.size w1 W.drew ∧ Ents es u W.drew ∧ Tables W.drew := pcS_kept h ⟨rfl, rfl, rfl, Nat.le_refl _, fun _ _ => rfl⟩
theorem pcS_e {b o : Nat} {P : ByteArray} {es : List Ent} {u : Value} {w1 W : World} (h : W.cell? ⟨b, o, none⟩ = some (.string P) ∧ b < w1.heap.size ∧ Below w1.heap.size w1 W ∧ Ents es u W ∧ Tables W) : Ents es u W := h.2.2.2.1
theorem pcS_t {b o : Nat} {P : ByteArray} {es : List Ent} {u : Value} {w1 W : World} (h : W.cell? ⟨b, o, none⟩ = some (.string P) ∧ b < w1.heap.size ∧ Below w1.heap.size w1 W ∧ Ents es u W ∧ Tables W) : Tables W := h.2.2.2.2
set_option maxHeartbeats 4000000 in
set_option maxRecDepth 100000 in
theorem partsClear_walk (es : List Ent) (u : Value) (X : List (List UInt8)) (v : Value) (w : World) (hU : Ents es u w) (hV : Txts X v w) (hT : Tables w) (hXb : X.length * 16 ≤ 140737488355328) :
    Calls Tryd.prog 3 #[u, v] w fun e w' => e = .returned (.bool true) ∧ Below w.heap.size w w' := by
  obtain ⟨a, cap, rfl⟩ := hV.len
  go_enter Tryd.func3, Tryd.ntmps3
  go_wp2_with fail
  refine (wakes20_any _ hT).mono ?_
  rintro e w1 ⟨rfl, hb1⟩
  have hU1 := hU.kept hb1
  have hV1 := hV.kept hb1
  have hT1 := hT.kept hb1
  go_wp2_with fail
  refine (long19_any es u _ hU1).mono ?_
  rintro e w' ⟨rfl, rfl⟩
  cases hl : longB es
  · obtain ⟨h60, hS⟩ := long20_no hl
    clear hl
    go_wp2_with fail
    go_loopw [5] (fun i wr => ∃ k : Nat, k ≤ X.length ∧ k ≤ 12 ∧ i = .int .i64 k ∧ Hid (∀ x ∈ X.take k, x.length ≤ 1000) ∧ Below w1.heap.size w1 wr) (fun i _ => X.length - (intOf i).toNat)
    case atStart => exact ⟨0, Nat.zero_le _, by omega, rfl, Lib.hid (by simp), Below.refl _ _⟩
    case round =>
      obtain ⟨k, hk, hk12, rfl, hA, hbel⟩ := hrel
      by_cases hlt : k < X.length
      · by_cases h12 : k < 12
        · have h12' : (k : Int) < 12 := by omega
          obtain ⟨b, o, cap', hv, hb, hc⟩ := hV1.at hlt
          cases hv
          have hNx := Lib.hid (fun (h : X[k].length ≤ 1000) => show ∀ x ∈ X.take (k + 1), x.length ≤ 1000 by
            rw [List.take_succ_eq_append_getElem hlt]
            intro x hx
            rcases List.mem_append.1 hx with hx | hx
            · exact hA.out x hx
            · rw [List.mem_singleton] at hx
              rw [hx]; exact h)
          obtain ⟨P, hx⟩ := some_bytes20 X[k]
          rw [hx] at hc hNx
          rw [size_list] at hNx
          rw [txt_of20] at hc
          clear hx
          have hcr := cellK hbel hb hc
          by_cases h1000 : P.size ≤ 1000
          · have hP' : decide ((1000 : Int) < (P.size : Int)) = false := by simp; omega
            have hN := Lib.hid (hNx.out h1000)
            have hS1 : wr.cell? ⟨b, o + k, none⟩ = some (.string P) ∧ b < w1.heap.size ∧ Below w1.heap.size w1 wr ∧ Ents es u wr ∧ Tables wr := ⟨hcr, hb, hbel, hU1.kept hbel, hT1.kept hbel⟩
            go_wp2_with fail
            go_region_held3 (fun W => W.cell? ⟨b, o + k, none⟩ = some (.string P) ∧ b < w1.heap.size ∧ Below w1.heap.size w1 W ∧ Ents es u W ∧ Tables W) (first | assumption | exact pcS_drew (by assumption) | exact pcS_kept (by assumption) (by assumption)) ((first
              | (go_at_call 11; refine (partsFit_any P _).mono ?_; rintro e w2 ⟨rfl, rfl⟩)
              | (go_at_call 12; refine (refFit_any P (by omega) _).mono ?_; rintro e w2 ⟨rfl, rfl⟩)
              | (go_at_call 13; refine (clear_any es u P (by omega) hS _ (pcS_e (by assumption)) (pcS_t (by assumption))).mono ?_; rintro e w2 ⟨rfl, hb2⟩)
              | (go_at_call 14; refine (refClear_any es u P (by omega) (by omega) hS _ (pcS_e (by assumption))).mono ?_; rintro e w2 ⟨rfl, hb2⟩)))
            all_goals
              refine take_world (fun W => W.cell? ⟨b, o + k, none⟩ = some (.string P) ∧ b < w1.heap.size ∧ Below w1.heap.size w1 W ∧ Ents es u W ∧ Tables W) (by assumption) ?_
              rintro ⟨_, _, hbW, _, _⟩
              go_wp2_with fail
              go_roundw
              case rel => exact ⟨k + 1, by omega, by omega, by go_num, hN, hbW⟩
              case measure => simp [intOf]; omega
          · have hP' : (1000 : Int) < (P.size : Int) := by omega
            go_wp2_with fail
            go_ret
            exact ⟨rfl, bs hb1 hbel⟩
        · have h12' : decide ((k : Int) < 12) = false := by simp; omega
          have hX8 : ∀ x ∈ X.take 8, x.length ≤ 1000000 := fun x hx => by
            have := hA.out x (by rw [show k = 8 + 4 by omega, List.take_add]; exact List.mem_append_left _ hx)
            omega
          have hOT := OT.lit wr
          have hTL : ∀ W, Below w1.heap.size w1 W → Txts X (.slice a X.length cap) W := fun W hW => hV1.kept hW
          go_wp2_with (at_builtin; refine wpList_append_txts (base := wr.heap.size) (X := X) rfl _ _ rfl rfl rfl (hTL _ (hbel.alloc hbel.size _)) hOT hXb (by simp) (by intro h; cases h) ?_; intro v' w2 hO2 hb2)
          refine (choose_any es u X v' (by omega) hS (by omega) _ ((hU1.kept hbel).kept (((Below.refl wr.heap.size wr).alloc (Nat.le_refl _) _).trans hb2)) hO2.txts ((hT1.kept hbel).kept (((Below.refl wr.heap.size wr).alloc (Nat.le_refl _) _).trans hb2))).mono ?_
          rintro e w3 ⟨rfl, hb3⟩
          have hb03 : Below wr.heap.size wr w3 := bs (((Below.refl wr.heap.size wr).alloc (Nat.le_refl _) _).trans hb2) hb3
          have hbw3 : Below w1.heap.size w1 w3 := hbel.trans (hb03.mono hbel.size)
          cases hC : chosen es X with
          | none =>
            simp only [chV]
            go_wp2_with fail
            refine (refChoose_any es u X _ (by omega) hS hX8 _ (hU1.kept hbw3) (hTL _ hbw3)).mono ?_
            rintro e w4 ⟨rfl, hb4⟩
            simp only [chV, hC]
            go_wp2_with fail
            go_ret
            exact ⟨rfl, bs hb1 (bs hbw3 hb4)⟩
          | some y =>
            simp only [chV]
            go_wp2_with fail
            refine (refChoose_any es u X _ (by omega) hS hX8 _ (hU1.kept hbw3) (hTL _ hbw3)).mono ?_
            rintro e w4 ⟨rfl, hb4⟩
            simp only [chV, hC]
            go_wp2_with fail
            go_ret
            exact ⟨rfl, bs hb1 (bs hbw3 hb4)⟩
      · obtain rfl : k = X.length := by omega
        have hX8 : ∀ x ∈ X.take 8, x.length ≤ 1000000 := fun x hx => by
          have := hA.out x (by rw [List.take_of_length_le (Nat.le_refl _)]; exact List.mem_of_mem_take hx)
          omega
        have hOT := OT.lit wr
        have hTL : ∀ W, Below w1.heap.size w1 W → Txts X (.slice a X.length cap) W := fun W hW => hV1.kept hW
        go_wp2_with (at_builtin; refine wpList_append_txts (base := wr.heap.size) (X := X) rfl _ _ rfl rfl rfl (hTL _ (hbel.alloc hbel.size _)) hOT hXb (by simp) (by intro h; cases h) ?_; intro v' w2 hO2 hb2)
        refine (choose_any es u X v' (by omega) hS (by omega) _ ((hU1.kept hbel).kept (((Below.refl wr.heap.size wr).alloc (Nat.le_refl _) _).trans hb2)) hO2.txts ((hT1.kept hbel).kept (((Below.refl wr.heap.size wr).alloc (Nat.le_refl _) _).trans hb2))).mono ?_
        rintro e w3 ⟨rfl, hb3⟩
        have hb03 : Below wr.heap.size wr w3 := bs (((Below.refl wr.heap.size wr).alloc (Nat.le_refl _) _).trans hb2) hb3
        have hbw3 : Below w1.heap.size w1 w3 := hbel.trans (hb03.mono hbel.size)
        cases hC : chosen es X with
        | none =>
          simp only [chV]
          go_wp2_with fail
          refine (refChoose_any es u X _ (by omega) hS hX8 _ (hU1.kept hbw3) (hTL _ hbw3)).mono ?_
          rintro e w4 ⟨rfl, hb4⟩
          simp only [chV, hC]
          go_wp2_with fail
          go_ret
          exact ⟨rfl, bs hb1 (bs hbw3 hb4)⟩
        | some y =>
          simp only [chV]
          go_wp2_with fail
          refine (refChoose_any es u X _ (by omega) hS hX8 _ (hU1.kept hbw3) (hTL _ hbw3)).mono ?_
          rintro e w4 ⟨rfl, hb4⟩
          simp only [chV, hC]
          go_wp2_with fail
          go_ret
          exact ⟨rfl, bs hb1 (bs hbw3 hb4)⟩
  · go_wp2_with fail
    go_ret
    exact ⟨rfl, hb1⟩
end Go.Proofs.YtapbljaohhcpoaaDoor
