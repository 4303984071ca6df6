/-
  urlenc.tells, urlenc.Plain: the walks.
-/
import Derived.Test.YtapbljaohhcpoaaDoorEnts
import Derived.Test.YtapbljaohhcpoaaDoorLines
namespace Go.Proofs.YtapbljaohhcpoaaDoor
set_option linter.unusedVariables false
set_option linter.unusedSimpArgs false
open Go.RowKit PT

/-- what an entry tells: its name and its value, ends of lines told by two bytes -/
def telN (x : Ent) : List UInt8 := ends [13, 10] x.n.data.toList
def telV (x : Ent) : List UInt8 := ends [13, 10] (if x.f then x.fn else x.v).data.toList
def tel (x : Ent) : Ent := ⟨⟨(telN x).toArray⟩, ⟨(telV x).toArray⟩, false, ⟨#[]⟩, ⟨#[]⟩⟩
/-- no text of an entry is long -/
def Short (x : Ent) : Prop := x.n.size ≤ 2000 ∧ x.v.size ≤ 2000 ∧ x.fn.size ≤ 2000 ∧ x.t.size ≤ 2000

set_option maxHeartbeats 1000000 in
set_option maxRecDepth 100000 in
theorem tells_any (x : Ent) (w : World) (hT : Tables w) (h1 : x.n.size ≤ 4000000) (h2 : x.v.size ≤ 4000000) (h3 : x.fn.size ≤ 4000000) :
    Calls Tryd.prog 61 #[entV x] w fun e w' => e = .returned (.tuple #[.string ⟨(telN x).toArray⟩, .string ⟨(telV x).toArray⟩]) ∧ Below w.heap.size w w' := by
  obtain ⟨n, v, f, fn, t⟩ := x
  unfold entV
  simp only at h1 h2 h3 ⊢
  have hb0 := (Below.refl w.heap.size w).alloc (Nat.le_refl _) (.cells #[.string n, .string v, .bool f, .string fn, .string t] 50)
  cases f
  all_goals
    have hT0 := hT.kept hb0
    go_enter Tryd.func61, Tryd.ntmps61
    go_wp2_with fail
    refine (pairs_any _ h1 _ hT0).mono ?_
    rintro e w1 ⟨rfl, hb1⟩
    have hT1 := hT0.kept hb1
    go_wp2_with fail
    refine (pairs_any _ (by assumption) _ hT1).mono ?_
    rintro e w2 ⟨rfl, hb2⟩
    go_wp2_with fail
    go_ret2
    exact ⟨rfl, bs (bs hb0 hb1) hb2⟩
set_option maxHeartbeats 1000000 in
set_option maxRecDepth 100000 in
theorem plain_any (es : List Ent) (v : Value) (w : World) (hE : Ents es v w) (hT : Tables w) (hl : es.length ≤ 1000) (hS : ∀ x ∈ es, Short x) :
    Calls Tryd.prog 60 #[v] w fun e w' => (∃ v', e = .returned v' ∧ OE w.heap.size (es.map tel) v' w') ∧ Below w.heap.size w w' := by
  obtain ⟨a, cap, rfl⟩ := hE.len
  go_enter Tryd.func60, Tryd.ntmps60
  go_wp2_with fail
  go_loopw [10, 3] (fun i v wr => ∃ k : Nat, k ≤ es.length ∧ i = .int .i64 k ∧ OE w.heap.size ((es.take k).map tel) v wr ∧ Below w.heap.size w wr) (fun i _ _ => es.length - (intOf i).toNat)
  case atStart => exact ⟨0, Nat.zero_le _, rfl, OE.nil _ _, Below.refl _ _⟩
  case round =>
    obtain ⟨k, hk, rfl, hown, hbel⟩ := hrel
    have hsz := hbel.size
    by_cases hlt : k < es.length
    · obtain ⟨b, o, cap', hv, hb, hc0, hc1, hc2, hc3, hc4⟩ := (hE.kept hbel).five hlt
      have hSk := hS es[k] (List.getElem_mem hlt)
      have hTk := Lib.hid (List.take_succ_eq_append_getElem hlt)
      cases hv
      generalize es[k] = x at *
      have hb0 := (Below.refl wr.heap.size wr).alloc (Nat.le_refl _) (.cells #[.string x.n, .string x.v, .bool x.f, .string x.fn, .string x.t] 50)
      have hT0 := hT.kept (hbel.trans (hb0.mono hsz))
      go_wp2_with fail
      refine (tells_any x _ hT0 (by have := hSk.1; omega) (by have := hSk.2.1; omega) (by have := hSk.2.2.1; omega)).mono ?_
      rintro e w1 ⟨rfl, hb1⟩
      have hb01 := bs hb0 hb1
      have hown1 := hown.kept hb01
      have hsz1 := hb01.size
      have hll : ((es.take k).map tel).length ≤ 1000 := by rw [List.length_map, List.length_take]; omega
      go_wp2_with (at_builtin; refine wpList_append_ent rfl _ _ rfl rfl rfl (tel x) hown1 (by omega) (by omega) ?_; intro v' w2 hown2 hb2)
      go_roundw
      case rel => exact ⟨k + 1, by omega, by go_num, by rw [hTk.out, List.map_append]; exact hown2, (hbel.trans (hb01.mono hsz)).trans hb2⟩
      case measure => simp [intOf]; omega
    · obtain rfl : k = es.length := by omega
      rw [List.take_of_length_le (Nat.le_refl _)] at hown
      go_wp2_with fail
      go_ret
      exact ⟨⟨_, rfl, hown⟩, hbel⟩
set_option maxHeartbeats 1000000 in
set_option maxRecDepth 100000 in
theorem refPlain19_any (es : List Ent) (v : Value) (w : World) (hE : Ents es v w) (hl : es.length ≤ 1000) (hS : ∀ x ∈ es, Short x) :
    Calls Tryd.prog 64 #[v] w fun e w' => (∃ v', e = .returned v' ∧ OE w.heap.size (es.map tel) v' w') ∧ Below w.heap.size w w' := by
  obtain ⟨a, cap, rfl⟩ := hE.len
  go_enter Tryd.func64, Tryd.ntmps64
  go_wp2_with fail
  go_loopw [4, 3] (fun i v wr => ∃ k : Nat, k ≤ es.length ∧ i = .int .i64 k ∧ OE w.heap.size ((es.take k).map tel) v wr ∧ Below w.heap.size w wr) (fun i _ _ => es.length - (intOf i).toNat)
  case atStart => exact ⟨0, Nat.zero_le _, rfl, OE.nil _ _, Below.refl _ _⟩
  case round =>
    obtain ⟨k, hk, rfl, hown, hbel⟩ := hrel
    have hsz := hbel.size
    by_cases hlt : k < es.length
    · obtain ⟨b, o, cap', hv, hb, hc0, hc1, hc2, hc3, hc4⟩ := (hE.kept hbel).five hlt
      have hSk := hS es[k] (List.getElem_mem hlt)
      have hTk := Lib.hid (List.take_succ_eq_append_getElem hlt)
      cases hv
      generalize es[k] = x at *
      obtain ⟨n, v, f, fn, t⟩ := x
      simp only at hc0 hc1 hc2 hc3 hc4
      have hll : ((es.take k).map tel).length ≤ 1000 := by rw [List.length_map, List.length_take]; omega
      cases f
      · go_wp2_with fail
        refine (refPairs_any _ (by have := hSk.1; simp only at this; omega) _).mono ?_
        rintro e w1 ⟨rfl, hb1⟩
        go_wp2_with fail
        refine (refPairs_any _ (by have := hSk.2.1; simp only at this; omega) _).mono ?_
        rintro e w2 ⟨rfl, hb2⟩
        have hb01 := bs hb1 hb2
        have hown1 := hown.kept hb01
        have hsz1 := hb01.size
        go_wp2_with (at_builtin; refine wpList_append_ent rfl _ _ rfl rfl rfl (tel ⟨n, v, false, fn, t⟩) hown1 (by omega) (by omega) ?_; intro v' w3 hown3 hb3)
        go_roundw
        case rel => exact ⟨k + 1, by omega, by go_num, by rw [hTk.out, List.map_append]; exact hown3, (hbel.trans (hb01.mono hsz)).trans hb3⟩
        case measure => simp [intOf]; omega
      · go_wp2_with fail
        refine (refPairs_any _ (by have := hSk.1; simp only at this; omega) _).mono ?_
        rintro e w1 ⟨rfl, hb1⟩
        go_wp2_with fail
        refine (refPairs_any _ (by have := hSk.2.2.1; simp only at this; omega) _).mono ?_
        rintro e w2 ⟨rfl, hb2⟩
        have hb01 := bs hb1 hb2
        have hown1 := hown.kept hb01
        have hsz1 := hb01.size
        go_wp2_with (at_builtin; refine wpList_append_ent rfl _ _ rfl rfl rfl (tel ⟨n, v, true, fn, t⟩) hown1 (by omega) (by omega) ?_; intro v' w3 hown3 hb3)
        go_roundw
        case rel => exact ⟨k + 1, by omega, by go_num, by rw [hTk.out, List.map_append]; exact hown3, (hbel.trans (hb01.mono hsz)).trans hb3⟩
        case measure => simp [intOf]; omega
    · obtain rfl : k = es.length := by omega
      rw [List.take_of_length_le (Nat.le_refl _)] at hown
      go_wp2_with fail
      go_ret
      exact ⟨⟨_, rfl, hown⟩, hbel⟩
end Go.Proofs.YtapbljaohhcpoaaDoor
