/-
  parts.Clear, Choose, ref20.Clear, Choose: the walks.
-/
import Derived.Test.YtapbljaohhcpoaaDoorParts2
import Derived.Test.YtapbljaohhcpoaaDoorTexts
namespace Go.Proofs.YtapbljaohhcpoaaDoor
open Go.RowKit PT

/-- no text of an entry is long -/
def Brief (x : Ent) : Prop := x.n.size ≤ 2000 ∧ x.v.size ≤ 2000 ∧ x.fn.size ≤ 2000 ∧ x.t.size ≤ 2000
def clearB (es : List Ent) (b : List UInt8) : Bool := fitB b && !es.any (fun x => Lib.contains (partE x) b)
set_option maxHeartbeats 2000000 in
set_option maxRecDepth 100000 in
theorem clear_any (es : List Ent) (u : Value) (b : ByteArray) (hl : es.length ≤ 1000000) (hS : ∀ x ∈ es, Brief x) (w : World) (hU : Ents es u w) (hT : Tables w) :
    Calls Tryd.prog 13 #[u, .string b] w fun e w' => e = .returned (.bool (clearB es b.data.toList)) ∧ Below w.heap.size w w' := by
  have hb0 := (Below.refl w.heap.size w).alloc (Nat.le_refl _) (.cells #[.string b] 9)
  have hn0 := Go.heap_alloc_new w (.cells #[.string b] 9)
  have hs0 : (w.alloc (.cells #[.string b] 9)).heap.size = w.heap.size + 1 := by simp
  have hT0 := hT.kept hb0
  have hU0 := hU.kept hb0
  have hc0 : (w.alloc (.cells #[.string b] 9)).cell? ⟨w.heap.size, 0, none⟩ = some (.string b) := by simp only [World.cell?, hn0]; rfl
  have hI : clearB es b.data.toList = (fitB b.data.toList && !es.any (fun x => Lib.contains (partE x) b.data.toList)) := rfl
  obtain ⟨a, cap, rfl⟩ := hU.len
  go_enter Tryd.func13, Tryd.ntmps13
  go_wp2_with fail
  refine (partsFit_any b _).mono ?_
  rintro e w' ⟨rfl, rfl⟩
  cases hf : fitB b.data.toList
  · have hN := Lib.hid (show clearB es b.data.toList = false by rw [hI, hf]; rfl)
    clear hI hf
    go_wp2_with fail
    go_ret
    exact ⟨ret_bool hN.out.symm, hb0⟩
  · have hN := Lib.hid (show clearB es b.data.toList = !es.any (fun x => Lib.contains (partE x) b.data.toList) by rw [hI, hf]; rfl)
    clear hI hf
    have hp : ∀ W, Below (w.alloc (.cells #[.string b] 9)).heap.size (w.alloc (.cells #[.string b] 9)) W → ∀ x ∈ es, Calls Tryd.prog 31 (#[entV x] ++ #[.pointer (some ⟨w.heap.size, 0, none⟩)]) W fun e w' => e = .returned (.bool (Lib.contains (partE x) b.data.toList)) ∧ Below W.heap.size W w' := by
      intro W hW x hx
      have hx' := hS x hx
      have hWs := hW.size
      exact clearFn_any x hx'.1 hx'.2.1 hx'.2.2.1 hx'.2.2.2 b w.heap.size W (hT0.kept hW) (by omega) (cellK hW (by omega) hc0)
    go_wp2_with fail
    refine (containsFuncE_any es (fun x => Lib.contains (partE x) b.data.toList) _ 31 #[.pointer (some ⟨w.heap.size, 0, none⟩)] (enters_of Tryd.func31 (by kernel_rfl) rfl) (by omega) _ hU0 hp).mono ?_
    rintro e w2 ⟨rfl, hb2⟩
    go_wp2_with fail
    go_ret
    exact ⟨ret_bool hN.out.symm, bs hb0 hb2⟩
theorem fnd_contains (l t : List UInt8) : decide (0 ≤ fnd l t 0) = Lib.contains l t := by
  unfold fnd Lib.contains
  rw [List.drop_zero]
  have := Lib.index_ge l t
  rw [Bool.eq_iff_iff, decide_eq_true_iff, decide_eq_true_iff]
  split <;> constructor <;> intro h <;> omega
set_option maxHeartbeats 2000000 in
set_option maxRecDepth 100000 in
theorem refClear_any (es : List Ent) (u : Value) (b : ByteArray) (hb : b.size ≤ 1000000) (hl : es.length ≤ 1000000) (hS : ∀ x ∈ es, Brief x) (w : World) (hU : Ents es u w) :
    Calls Tryd.prog 14 #[u, .string b] w fun e w' => e = .returned (.bool (clearB es b.data.toList)) ∧ Below w.heap.size w w' := by
  have hI : clearB es b.data.toList = (fitB b.data.toList && !es.any (fun x => Lib.contains (partE x) b.data.toList)) := rfl
  obtain ⟨a, cap, rfl⟩ := hU.len
  go_enter Tryd.func14, Tryd.ntmps14
  go_wp2_with fail
  refine (refFit_any b (by omega) _).mono ?_
  rintro e w' ⟨rfl, rfl⟩
  cases hf : fitB b.data.toList
  · have hN := Lib.hid (show clearB es b.data.toList = false by rw [hI, hf]; rfl)
    clear hI hf
    go_wp2_with fail
    go_ret
    exact ⟨ret_bool hN.out.symm, Below.refl _ _⟩
  · have hN := Lib.hid (show clearB es b.data.toList = !es.any (fun x => Lib.contains (partE x) b.data.toList) by rw [hI, hf]; rfl)
    have hb1 : 1 ≤ b.size := by
      unfold fitB at hf
      rw [Bool.and_eq_true, Bool.and_eq_true, decide_eq_true_eq, size_list] at hf
      omega
    clear hI hf
    go_wp2_with fail
    go_loopw [5] (fun i wr => ∃ k : Nat, k ≤ es.length ∧ i = .int .i64 k ∧ Hid ((es.take k).any (fun x => Lib.contains (partE x) b.data.toList) = false) ∧ Below w.heap.size w wr) (fun i _ => es.length - (intOf i).toNat)
    case atStart => exact ⟨0, Nat.zero_le _, rfl, Lib.hid rfl, Below.refl _ _⟩
    case round =>
      obtain ⟨k, hk, rfl, hA, hbel⟩ := hrel
      by_cases hlt : k < es.length
      · obtain ⟨bb, o, cap', hv, hbb, hc0, hc1, hc2, hc3, hc4⟩ := (hU.kept hbel).five hlt
        cases hv
        have hT := Lib.hid (List.take_succ_eq_append_getElem hlt)
        have hM := Lib.hid (List.getElem_mem hlt)
        have hSk := hS es[k] (List.getElem_mem hlt)
        generalize es[k] = x at *
        have hpl := partE_len x hSk.1 hSk.2.1 hSk.2.2.1 hSk.2.2.2
        go_wp2_with fail
        refine (refPart_any x hSk.1 hSk.2.1 hSk.2.2.1 hSk.2.2.2 _).mono ?_
        rintro e w2 ⟨rfl, hb2⟩
        go_wp2_with fail
        refine (find_any ⟨(partE x).toArray⟩ b 0 (by rw [size_mk]; omega) hb1 (by omega) (Nat.zero_le _) _).mono ?_
        rintro e w3 ⟨rfl, hb3⟩
        have hFc := fnd_contains (partE x) b.data.toList
        have hb23 := bs hb2 hb3
        have hge : -1 ≤ fnd (partE x) b.data.toList 0 := by
          unfold fnd
          have := Lib.index_ge ((partE x).drop 0) b.data.toList
          split <;> omega
        rw [show fnd (ByteArray.mk (partE x).toArray).data.toList b.data.toList 0 = fnd (partE x) b.data.toList 0 from rfl]
        generalize fnd (partE x) b.data.toList 0 = z at *
        cases hq : Lib.contains (partE x) b.data.toList
        · have hN2 := Lib.hid (show (es.take (k + 1)).any (fun x => Lib.contains (partE x) b.data.toList) = false by rw [hT.out, List.any_append, hA.out]; simp [hq])
          rw [hq] at hFc
          clear hq
          go_wp2_with fail
          go_roundw
          case rel => exact ⟨k + 1, by omega, by go_num, hN2, hbel.trans (hb23.mono hbel.size)⟩
          case measure => simp [intOf]; omega
        · have hN2 := Lib.hid (show clearB es b.data.toList = false by rw [hN.out, List.any_eq_true.2 ⟨x, hM.out, hq⟩]; rfl)
          rw [hq] at hFc
          clear hq
          go_wp2_with fail
          go_ret
          exact ⟨ret_bool hN2.out.symm, hbel.trans (hb23.mono hbel.size)⟩
      · obtain rfl : k = es.length := by omega
        have hN2 := Lib.hid (show clearB es b.data.toList = true by rw [hN.out]; have := hA.out; rw [List.take_of_length_le (Nat.le_refl _)] at this; rw [this]; rfl)
        go_wp2_with fail
        go_ret
        exact ⟨ret_bool hN2.out.symm, hbel⟩
/-- the first boundary that may be, among eight -/
def chosen (es : List Ent) (X : List (List UInt8)) : Option (List UInt8) := (X.take 8).find? (fun x => clearB es x)
def chV (o : Option (List UInt8)) : Value := match o with
  | some x => .tuple #[.string ⟨x.toArray⟩, .int .i64 0]
  | none => .tuple #[.string ⟨#[]⟩, .int .i64 10]
theorem some_bytes20 (x : List UInt8) : ∃ P : ByteArray, x = P.data.toList := ⟨⟨x.toArray⟩, rfl⟩
theorem txt_of20 (P : ByteArray) : txt P.data.toList = .string P := rfl
theorem chosen_hit (es : List Ent) (X : List (List UInt8)) (k : Nat) (hk : k < X.length) (h8 : k < 8) (hno : ∀ x ∈ X.take k, clearB es x = false) (h : clearB es X[k] = true) : chosen es X = some X[k] := by
  unfold chosen
  have e : X.take 8 = X.take k ++ (X.drop k).take (8 - k) := by
    rw [← List.take_add]; congr 1; omega
  rw [e, List.find?_append]
  have h1 : (X.take k).find? (fun x => clearB es x) = none := by
    rw [List.find?_eq_none]
    intro x hx
    rw [hno x hx]; exact Bool.false_ne_true
  rw [h1, List.drop_eq_getElem_cons hk, show 8 - k = (7 - k) + 1 by omega, List.take_succ_cons, List.find?_cons_of_pos h]
  rfl
theorem chosen_none (es : List Ent) (X : List (List UInt8)) (hno : ∀ x ∈ X.take 8, clearB es x = false) : chosen es X = none := by
  unfold chosen
  rw [List.find?_eq_none]
  intro x hx
  rw [hno x hx]; exact Bool.false_ne_true
set_option maxHeartbeats 2000000 in
set_option maxRecDepth 100000 in
theorem choose_any (es : List Ent) (u : Value) (X : List (List UInt8)) (v : Value) (hl : es.length ≤ 1000000) (hS : ∀ x ∈ es, Brief x) (hXl : X.length ≤ 9223372036854775806) (w : World) (hU : Ents es u w) (hV : Txts X v w) (hT : Tables w) :
    Calls Tryd.prog 15 #[u, v] w fun e w' => e = .returned (chV (chosen es X)) ∧ Below w.heap.size w w' := by
  obtain ⟨a, cap, rfl⟩ := hV.len
  go_enter Tryd.func15, Tryd.ntmps15
  go_wp2_with fail
  go_loopw [10] (fun i wr => ∃ k : Nat, k ≤ X.length ∧ i = .int .i64 k ∧ Hid (∀ x ∈ X.take (min k 8), clearB es x = false) ∧ Below w.heap.size w wr) (fun i _ => X.length - (intOf i).toNat)
  case atStart => exact ⟨0, Nat.zero_le _, rfl, Lib.hid (by simp), Below.refl _ _⟩
  case round =>
    obtain ⟨k, hk, rfl, hA, hbel⟩ := hrel
    by_cases hlt : k < X.length
    · obtain ⟨b, o, cap', hv, hb, hc⟩ := (hV.kept hbel).at hlt
      cases hv
      by_cases h8 : k < 8
      · have h8' : (k : Int) < 8 := by omega
        have hHit := Lib.hid (fun h => chosen_hit es X k hlt h8 (by have := hA.out; rwa [Nat.min_eq_left (by omega)] at this) h)
        have hNx := Lib.hid (fun (h : clearB es X[k] = false) => show ∀ x ∈ X.take (min (k + 1) 8), clearB es x = false by
          rw [Nat.min_eq_left (by omega), List.take_succ_eq_append_getElem hlt]
          intro x hx
          rcases List.mem_append.1 hx with hx | hx
          · have := hA.out
            rw [Nat.min_eq_left (by omega)] at this
            exact this x hx
          · rw [List.mem_singleton] at hx
            rw [hx]; exact h)
        obtain ⟨P, hx⟩ := some_bytes20 X[k]
        rw [hx] at hc hHit hNx
        rw [txt_of20] at hc
        clear hx
        go_wp2_with fail
        refine (clear_any es u P hl hS _ (hU.kept hbel) (hT.kept hbel)).mono ?_
        rintro e w2 ⟨rfl, hb2⟩
        cases hq : clearB es P.data.toList
        · have hN := Lib.hid (hNx.out hq)
          clear hq
          go_wp2_with fail
          go_roundw
          case rel => exact ⟨k + 1, by omega, by go_num, hN, hbel.trans (hb2.mono hbel.size)⟩
          case measure => simp [intOf]; omega
        · have hN := Lib.hid (hHit.out hq)
          clear hq
          go_wp2_with fail
          go_ret2
          exact ⟨by rw [hN.out]; rfl, hbel.trans (hb2.mono hbel.size)⟩
      · have h8' : decide ((k : Int) < 8) = false := by simp; omega
        have hN := Lib.hid (show ∀ x ∈ X.take (min (k + 1) 8), clearB es x = false by
          have := hA.out
          rw [Nat.min_eq_right (by omega)] at this ⊢
          exact this)
        obtain ⟨P, hx⟩ := some_bytes20 X[k]
        rw [hx] at hc
        rw [txt_of20] at hc
        clear hx
        go_wp2_with fail
        go_roundw
        case rel => exact ⟨k + 1, by omega, by go_num, hN, hbel⟩
        case measure => simp [intOf]; omega
    · obtain rfl : k = X.length := by omega
      have hN := Lib.hid (chosen_none es X (by
        intro x hx
        refine hA.out x ?_
        by_cases h : X.length ≤ 8
        · rw [Nat.min_eq_left h, List.take_of_length_le (Nat.le_refl _)]
          exact List.mem_of_mem_take hx
        · rw [Nat.min_eq_right (by omega)]; exact hx))
      go_wp2_with fail
      go_ret2
      exact ⟨by rw [hN.out]; rfl, hbel⟩
set_option maxHeartbeats 2000000 in
set_option maxRecDepth 100000 in
theorem refChoose_any (es : List Ent) (u : Value) (X : List (List UInt8)) (v : Value) (hl : es.length ≤ 1000000) (hS : ∀ x ∈ es, Brief x) (hX8 : ∀ x ∈ X.take 8, x.length ≤ 1000000) (w : World) (hU : Ents es u w) (hV : Txts X v w) :
    Calls Tryd.prog 16 #[u, v] w fun e w' => e = .returned (chV (chosen es X)) ∧ Below w.heap.size w w' := by
  obtain ⟨a, cap, rfl⟩ := hV.len
  go_enter Tryd.func16, Tryd.ntmps16
  go_wp2_with fail
  go_loopw [6] (fun i wr => ∃ k : Nat, k ≤ X.length ∧ k ≤ 8 ∧ i = .int .i64 k ∧ Hid (∀ x ∈ X.take k, clearB es x = false) ∧ Below w.heap.size w wr) (fun i _ => X.length - (intOf i).toNat)
  case atStart => exact ⟨0, Nat.zero_le _, by omega, rfl, Lib.hid (by simp), Below.refl _ _⟩
  case round =>
    obtain ⟨k, hk, hk8, rfl, hA, hbel⟩ := hrel
    by_cases hlt : k < X.length
    · by_cases h8 : k < 8
      · obtain ⟨b, o, cap', hv, hb, hc⟩ := (hV.kept hbel).at hlt
        cases hv
        have h8' : (k : Int) < 8 := by omega
        have hHit := Lib.hid (fun h => chosen_hit es X k hlt h8 hA.out h)
        have hPs : X[k].length ≤ 1000000 := hX8 X[k] (by
          have : X[k] = (X.take 8)[k]'(by rw [List.length_take]; omega) := by rw [List.getElem_take]
          rw [this]; exact List.getElem_mem _)
        have hNx := Lib.hid (fun (h : clearB es X[k] = false) => show ∀ x ∈ X.take (k + 1), clearB es x = false by
          rw [List.take_succ_eq_append_getElem hlt]
          intro x hx
          rcases List.mem_append.1 hx with hx | hx
          · exact hA.out x hx
          · rw [List.mem_singleton] at hx
            rw [hx]; exact h)
        obtain ⟨P, hx⟩ := some_bytes20 X[k]
        rw [hx] at hc hHit hNx hPs
        rw [txt_of20] at hc
        rw [size_list] at hPs
        clear hx
        go_wp2_with fail
        refine (refClear_any es u P hPs hl hS _ (hU.kept hbel)).mono ?_
        rintro e w2 ⟨rfl, hb2⟩
        have hc2 := cellK hb2 hb hc
        cases hq : clearB es P.data.toList
        · have hN := Lib.hid (hNx.out hq)
          clear hq
          go_wp2_with fail
          go_roundw
          case rel => exact ⟨k + 1, by omega, by omega, by go_num, hN, hbel.trans (hb2.mono hbel.size)⟩
          case measure => simp [intOf]; omega
        · have hN := Lib.hid (hHit.out hq)
          clear hq
          go_wp2_with fail
          go_ret2
          exact ⟨by rw [hN.out]; rfl, hbel.trans (hb2.mono hbel.size)⟩
      · have h8' : decide ((k : Int) < 8) = false := by simp; omega
        have hN := Lib.hid (chosen_none es X (by have := hA.out; rwa [show k = 8 by omega] at this))
        go_wp2_with fail
        go_ret2
        exact ⟨by rw [hN.out]; rfl, hbel⟩
    · obtain rfl : k = X.length := by omega
      have hN := Lib.hid (chosen_none es X (by
        intro x hx
        refine hA.out x ?_
        rw [List.take_of_length_le (Nat.le_refl _)]
        exact List.mem_of_mem_take hx))
      go_wp2_with fail
      go_ret2
      exact ⟨by rw [hN.out]; rfl, hbel⟩
end Go.Proofs.YtapbljaohhcpoaaDoor
