/-
  parts.Encode, ref20.Encode: the walks.
-/
import Derived.Test.YtapbljaohhcpoaaDoorParts3
import Derived.Test.YtapbljaohhcpoaaDoorBuilder
namespace Go.Proofs.YtapbljaohhcpoaaDoor
open Go.RowKit PT
open Go.Lib (OthersKept)

/-- an entry's lines -/
def piece (b : List UInt8) (x : Ent) : List UInt8 := [45, 45] ++ b ++ [13, 10] ++ partE x ++ [13, 10]
def pieces (b : List UInt8) (es : List Ent) : List UInt8 := es.flatMap (piece b)
def encP20 (b : List UInt8) (es : List Ent) : List UInt8 := pieces b es ++ ([45, 45] ++ b ++ [45, 45, 13, 10])
theorem pieces_step (b : List UInt8) (es : List Ent) (k : Nat) (hk : k < es.length) : pieces b (es.take (k + 1)) = pieces b (es.take k) ++ piece b es[k] := by
  unfold pieces
  rw [List.take_succ_eq_append_getElem hk, List.flatMap_append]
  simp
theorem piece_len (b : List UInt8) (hb : b.length ≤ 70) (x : Ent) (h : Brief x) : (piece b x).length ≤ 60076 := by
  have := partE_len x h.1 h.2.1 h.2.2.1 h.2.2.2
  unfold piece
  simp only [List.length_append, List.length_cons, List.length_nil]
  omega
theorem pieces_len (b : List UInt8) (hb : b.length ≤ 70) (es : List Ent) (hS : ∀ x ∈ es, Brief x) : (pieces b es).length ≤ es.length * 60076 := by
  induction es with
  | nil => simp [pieces]
  | cons x r ih =>
    have h1 := piece_len b hb x (hS x (by simp))
    have h2 := ih (fun y hy => hS y (by simp [hy]))
    unfold pieces at h2 ⊢
    rw [List.flatMap_cons, List.length_append, List.length_cons, Nat.add_mul]
    omega
theorem SK.of_below {B b : Nat} {W W' : World} (hB : B ≤ W.heap.size) (hb : Below W.heap.size W W') : SK B b W W' :=
  ⟨hb.mono hB, fun k o hk _ _ => by rw [hb.block k (Array.getElem?_eq_some_iff.1 hk).1]; exact hk⟩
theorem piece_cat (b : ByteArray) (p : List UInt8) : (ByteArray.mk #[45, 45] ++ b ++ ByteArray.mk #[13, 10] ++ ByteArray.mk p.toArray ++ ByteArray.mk #[13, 10]).data.toList = [45, 45] ++ b.data.toList ++ [13, 10] ++ p ++ [13, 10] := by simp
theorem last_cat (b : ByteArray) : (ByteArray.mk #[45, 45] ++ b ++ ByteArray.mk #[45, 45] ++ ByteArray.mk #[13, 10]).data.toList = [45, 45] ++ b.data.toList ++ [45, 45, 13, 10] := by simp
theorem fit_size (b : ByteArray) (h : fitB b.data.toList = true) : 1 ≤ b.size ∧ b.size ≤ 70 := by
  unfold fitB at h
  rw [Bool.and_eq_true, Bool.and_eq_true, decide_eq_true_eq, decide_eq_true_eq, size_list] at h
  omega
theorem clear_fit {es : List Ent} {b : ByteArray} (h : clearB es b.data.toList = true) : 1 ≤ b.size ∧ b.size ≤ 70 := by
  unfold clearB at h
  rw [Bool.and_eq_true] at h
  exact fit_size b h.1
def encV (es : List Ent) (b : List UInt8) : Value := if clearB es b then .tuple #[.string ⟨(encP20 b es).toArray⟩, .int .i64 0] else .tuple #[.string ⟨#[]⟩, .int .i64 10]
set_option maxHeartbeats 2000000 in
set_option maxRecDepth 100000 in
theorem partsEncode_any (es : List Ent) (u : Value) (b : ByteArray) (hl : es.length ≤ 1000) (hS : ∀ x ∈ es, Brief x) (w : World) (hU : Ents es u w) (hT : Tables w) :
    Calls Tryd.prog 17 #[u, .string b] w fun e w' => e = .returned (encV es b.data.toList) ∧ Below w.heap.size w w' := by
  obtain ⟨a, cap, rfl⟩ := hU.len
  go_enter Tryd.func17, Tryd.ntmps17
  go_wp2_with fail
  refine (clear_any es _ b (by omega) hS _ hU hT).mono ?_
  rintro e w1 ⟨rfl, hb1⟩
  cases hq : clearB es b.data.toList
  · have hN := Lib.hid (show encV es b.data.toList = .tuple #[.string ⟨#[]⟩, .int .i64 10] by unfold encV; rw [hq]; rfl)
    clear hq
    go_wp2_with fail
    go_ret2
    exact ⟨by rw [hN.out]; rfl, hb1⟩
  · have hN := Lib.hid (show encV es b.data.toList = .tuple #[.string ⟨(encP20 b.data.toList es).toArray⟩, .int .i64 0] by unfold encV; rw [hq]; rfl)
    obtain ⟨hbz1, hbz⟩ := clear_fit hq
    clear hq
    have hU1 := hU.kept hb1
    have hT1 := hT.kept hb1
    have hb2 := (Below.refl w1.heap.size w1).alloc (Nat.le_refl _) (.cells #[.pointer none, .slice none 0 0] 60)
    have hB0 := SB.fresh w1
    have hs2 : (w1.alloc (.cells #[.pointer none, .slice none 0 0] 60)).heap.size = w1.heap.size + 1 := by simp
    have HS2 := Lib.hid hs2
    have hb1s := hb1.size
    clear hs2
    go_wp2_with fail
    have hW2s := HS2.out
    generalize w1.alloc (.cells #[.pointer none, .slice none 0 0] 60) = W2 at *
    have hb70 : b.data.toList.length ≤ 70 := by rw [size_list]; exact hbz
    go_loopw [15] (fun i wr => ∃ k : Nat, k ≤ es.length ∧ i = .int .i64 k ∧ SB w1.heap.size w1.heap.size (pieces b.data.toList (es.take k)) wr ∧ SK w1.heap.size w1.heap.size W2 wr ∧ Below w1.heap.size w1 wr) (fun i _ => es.length - (intOf i).toNat)
    case atStart => exact ⟨0, Nat.zero_le _, rfl, hB0, SK.refl _ _ _, hb2⟩
    case round =>
      obtain ⟨k, hk, rfl, hown, hsk, hbel⟩ := hrel
      have hsz := hbel.size
      have hLl := pieces_len b.data.toList hb70 (es.take k) (fun x hx => hS x (List.mem_of_mem_take hx))
      have hL2 : (pieces b.data.toList (es.take k)).length ≤ 100000000 := by
        have : (es.take k).length ≤ 1000 := by rw [List.length_take]; omega
        omega
      by_cases hlt : k < es.length
      · obtain ⟨bb, o, cap', hv, hbb, hc0, hc1, hc2, hc3, hc4⟩ := (hU1.kept hbel).five hlt
        cases hv
        have hSt := Lib.hid (pieces_step b.data.toList es k hlt)
        have hSk := hS es[k] (List.getElem_mem hlt)
        generalize es[k] = x at *
        have hpl := partE_len x hSk.1 hSk.2.1 hSk.2.2.1 hSk.2.2.2
        have hb3 := (Below.refl wr.heap.size wr).alloc (Nat.le_refl _) (.cells #[.string x.n, .string x.v, .bool x.f, .string x.fn, .string x.t] 50)
        have hown3 := hown.kept hb3
        have hsk3 := hsk.trans (SK.of_below hsz hb3)
        have hT3 := (hT1.kept hbel).kept hb3
        have hbel3 := hbel.trans (hb3.mono hsz)
        go_wp2_with fail
        generalize wr.alloc (.cells #[.string x.n, .string x.v, .bool x.f, .string x.fn, .string x.t] 50) = W3 at *
        refine (part_any x hSk.1 hSk.2.1 hSk.2.2.1 hSk.2.2.2 _ hT3).mono ?_
        rintro e w4 ⟨rfl, hb4⟩
        have hS0 : ∃ S : ByteArray, ByteArray.mk #[45, 45] ++ b ++ ByteArray.mk #[13, 10] ++ ByteArray.mk (partE x).toArray ++ ByteArray.mk #[13, 10] = S ∧ S.data.toList = piece b.data.toList x := ⟨_, rfl, piece_cat b (partE x)⟩
        obtain ⟨S, hX, hSl⟩ := hS0
        have hSz : S.size ≤ 60076 := by rw [← size_list, hSl]; exact piece_len _ hb70 x hSk
        have hSz1 : 1 ≤ S.size := by rw [← size_list, hSl]; unfold piece; simp only [List.length_append, List.length_cons, List.length_nil]; omega
        have HX := Lib.hid hX
        have HSl := Lib.hid hSl
        have hbel3s := hbel3.size
        have hown4 := hown3.kept hb4
        have hsk4 := hsk3.trans (SK.of_below hbel3s hb4)
        have hbel4 := hbel3.trans (hb4.mono hbel3s)
        have hq1 : (pieces b.data.toList (es.take k)).length + S.size < 70368744177664 := by omega
        have hpe : prtP x.n.data.toList x.v.data.toList x.f x.fn.data.toList x.t.data.toList = partE x := rfl
        rw [hpe]
        clear hX hSl hpe
        go_wp2_with fail
        rw [HX.out]
        refine (writeString_any _ _ _ S _ hown4 hq1 hSz1 hbel4.size).mono ?_
        rintro e w5 ⟨rfl, hown5, hsk5⟩
        have hown6 : SB w1.heap.size w1.heap.size (pieces b.data.toList (es.take (k + 1))) w5 := by rw [hSt.out, ← HSl.out]; exact hown5
        clear hown5
        go_wp2_with fail
        go_roundw
        case rel => exact ⟨k + 1, by omega, by go_num, hown6, hsk4.trans hsk5, hbel4.trans hsk5.1⟩
        case measure => simp [intOf]; omega
      · obtain rfl : k = es.length := by omega
        rw [List.take_of_length_le (Nat.le_refl _)] at hown hL2
        have hS0 : ∃ S : ByteArray, ByteArray.mk #[45, 45] ++ b ++ ByteArray.mk #[45, 45] ++ ByteArray.mk #[13, 10] = S ∧ S.data.toList = [45, 45] ++ b.data.toList ++ [45, 45, 13, 10] := ⟨_, rfl, last_cat b⟩
        obtain ⟨S, hX, hSl⟩ := hS0
        have hSz : S.size = b.size + 6 := by rw [← size_list, hSl]; simp only [List.length_append, List.length_cons, List.length_nil, size_list]; omega
        have HX := Lib.hid hX
        have HSl := Lib.hid hSl
        have hq1 : (pieces b.data.toList es).length + S.size < 70368744177664 := by omega
        have hq2 : 1 ≤ S.size := by omega
        clear hX hSl hSz
        go_wp2_with fail
        rw [HX.out]
        refine (writeString_any _ _ _ S _ hown hq1 hq2 hsz).mono ?_
        rintro e w5 ⟨rfl, hown5, hsk5⟩
        have hown6 : SB w1.heap.size w1.heap.size (encP20 b.data.toList es) w5 := by unfold encP20; rw [← HSl.out]; exact hown5
        have hbel5 := hbel.trans hsk5.1
        clear hown5
        go_wp2_with fail
        refine (string_any _ _ _ _ hown6 hbel5.size).mono ?_
        rintro e w6 ⟨rfl, hown7, hsk7⟩
        go_wp2_with fail
        go_ret2
        exact ⟨by rw [hN.out]; rfl, bs hb1 (hbel5.trans hsk7.1)⟩
set_option maxHeartbeats 2000000 in
set_option maxRecDepth 100000 in
theorem refPartsEncode_any (es : List Ent) (u : Value) (b : ByteArray) (hbs : b.size ≤ 1000000) (hl : es.length ≤ 1000) (hS : ∀ x ∈ es, Brief x) (w : World) (hU : Ents es u w) :
    Calls Tryd.prog 18 #[u, .string b] w fun e w' => e = .returned (encV es b.data.toList) ∧ Below w.heap.size w w' := by
  obtain ⟨a, cap, rfl⟩ := hU.len
  go_enter Tryd.func18, Tryd.ntmps18
  go_wp2_with fail
  refine (refClear_any es _ b hbs (by omega) hS _ hU).mono ?_
  rintro e w1 ⟨rfl, hb1⟩
  cases hq : clearB es b.data.toList
  · have hN := Lib.hid (show encV es b.data.toList = .tuple #[.string ⟨#[]⟩, .int .i64 10] by unfold encV; rw [hq]; rfl)
    clear hq
    go_wp2_with fail
    go_ret2
    exact ⟨by rw [hN.out]; rfl, hb1⟩
  · have hN := Lib.hid (show encV es b.data.toList = .tuple #[.string ⟨(encP20 b.data.toList es).toArray⟩, .int .i64 0] by unfold encV; rw [hq]; rfl)
    obtain ⟨hbz1, hbz⟩ := clear_fit hq
    clear hq
    have hU1 := hU.kept hb1
    have hb70 : b.data.toList.length ≤ 70 := by rw [size_list]; exact hbz
    go_wp2_with fail
    go_loopw [7, 6] (fun i v wr => ∃ k : Nat, k ≤ es.length ∧ i = .int .i64 k ∧ OB w1.heap.size (pieces b.data.toList (es.take k)) v wr ∧ Below w1.heap.size w1 wr) (fun i _ _ => es.length - (intOf i).toNat)
    case atStart => exact ⟨0, Nat.zero_le _, rfl, OB.nil _ _, Below.refl _ _⟩
    case round =>
      obtain ⟨k, hk, rfl, hown, hbel⟩ := hrel
      have hsz := hbel.size
      have hLl := pieces_len b.data.toList hb70 (es.take k) (fun x hx => hS x (List.mem_of_mem_take hx))
      have hL2 : (pieces b.data.toList (es.take k)).length ≤ 100000000 := by
        have : (es.take k).length ≤ 1000 := by rw [List.length_take]; omega
        omega
      have hA1 : (pieces b.data.toList (es.take k)).length + (ByteArray.mk #[45, 45]).size < 70368744177664 := by have : (ByteArray.mk #[45, 45]).size = 2 := rfl; omega
      have hA2 : (pieces b.data.toList (es.take k) ++ [45, 45]).length + b.size < 70368744177664 := by rw [List.length_append]; simp only [List.length_cons, List.length_nil]; omega
      by_cases hlt : k < es.length
      · have hA3 : (pieces b.data.toList (es.take k) ++ [45, 45] ++ b.data.toList).length + (ByteArray.mk #[13, 10]).size < 70368744177664 := by have : (ByteArray.mk #[13, 10]).size = 2 := rfl; simp only [List.length_append, List.length_cons, List.length_nil]; omega
        obtain ⟨bb, o, cap', hv, hbb, hc0, hc1, hc2, hc3, hc4⟩ := hU1.five hlt
        cases hv
        have hSt := Lib.hid (pieces_step b.data.toList es k hlt)
        have hSk := hS es[k] (List.getElem_mem hlt)
        generalize es[k] = x at *
        have hpl := partE_len x hSk.1 hSk.2.1 hSk.2.2.1 hSk.2.2.2
        have H0 := Lib.hid hc0
        have H1 := Lib.hid hc1
        have H2 := Lib.hid hc2
        have H3 := Lib.hid hc3
        have H4 := Lib.hid hc4
        clear hc0 hc1 hc2 hc3 hc4
        go_wp2_with (first | (at_builtin; refine wpList_append_text (t := ⟨#[45, 45]⟩) rfl _ _ rfl rfl rfl hown hA1 hsz ?_; intro v2 w2 hown2 hb2; have hs2 := hb2.size) | (at_builtin; refine wpList_append_text (t := b) rfl _ _ rfl rfl rfl hown2 hA2 (by omega) ?_; intro v3 w3 hown3 hb3; have hs3 := hb3.size) | (at_builtin; refine wpList_append_text (t := ⟨#[13, 10]⟩) rfl _ _ rfl rfl rfl hown3 hA3 (by omega) ?_; intro v4 w4 hown4 hb4; have hs4 := hb4.size; have hbq := (((hbel.trans hb2).trans hb3).trans hb4); have p0 := cellK hbq hbb H0.out; have p1 := cellK hbq hbb H1.out; have p2 := cellK hbq hbb H2.out; have p3 := cellK hbq hbb H3.out; have p4 := cellK hbq hbb H4.out))
        refine (refPart_any x hSk.1 hSk.2.1 hSk.2.2.1 hSk.2.2.2 _).mono ?_
        rintro e w5 ⟨rfl, hb5⟩
        have hpe : prtP x.n.data.toList x.v.data.toList x.f x.fn.data.toList x.t.data.toList = partE x := rfl
        rw [hpe]
        have hs5 := hb5.size
        have hown5 := hown4.kept hb5
        have hA5 : (pieces b.data.toList (es.take k) ++ [45, 45] ++ b.data.toList ++ [13, 10]).length + (ByteArray.mk (partE x).toArray).size < 70368744177664 := by rw [size_mk]; simp only [List.length_append, List.length_cons, List.length_nil]; omega
        have hA6 : (pieces b.data.toList (es.take k) ++ [45, 45] ++ b.data.toList ++ [13, 10] ++ partE x).length + (ByteArray.mk #[13, 10]).size < 70368744177664 := by have : (ByteArray.mk #[13, 10]).size = 2 := rfl; simp only [List.length_append, List.length_cons, List.length_nil]; omega
        clear hpe
        go_wp2_with (first | (at_builtin; refine wpList_append_text (t := ⟨(partE x).toArray⟩) rfl _ _ rfl rfl rfl hown5 hA5 (by omega) ?_; intro v6 w6 hown6 hb6; have hs6 := hb6.size) | (at_builtin; refine wpList_append_text (t := ⟨#[13, 10]⟩) rfl _ _ rfl rfl rfl hown6 hA6 (by omega) ?_; intro v7 w7 hown7 hb7))
        go_roundw
        case rel => exact ⟨k + 1, by omega, by go_num, by rw [hSt.out]; unfold piece; simp only [List.append_assoc] at hown7 ⊢; exact hown7, (((((hbel.trans hb2).trans hb3).trans hb4).trans (hb5.mono (by omega))).trans hb6).trans hb7⟩
        case measure => simp [intOf]; omega
      · obtain rfl : k = es.length := by omega
        rw [List.take_of_length_le (Nat.le_refl _)] at hown hA1 hA2 hL2
        have hA3 : (pieces b.data.toList es ++ [45, 45] ++ b.data.toList).length + (ByteArray.mk #[45, 45, 13, 10]).size < 70368744177664 := by have : (ByteArray.mk #[45, 45, 13, 10]).size = 4 := rfl; simp only [List.length_append, List.length_cons, List.length_nil]; omega
        have hE := Lib.hid (show pieces b.data.toList es ++ 45 :: 45 :: (b.data.toList ++ [45, 45, 13, 10]) = encP20 b.data.toList es by unfold encP20; simp)
        go_wp2_with (first | (at_builtin; refine wpList_append_text (t := ⟨#[45, 45]⟩) rfl _ _ rfl rfl rfl hown hA1 hsz ?_; intro v2 w2 hown2 hb2; have hs2 := hb2.size) | (at_builtin; refine wpList_append_text (t := b) rfl _ _ rfl rfl rfl hown2 hA2 (by omega) ?_; intro v3 w3 hown3 hb3; have hs3 := hb3.size) | (at_builtin; refine wpList_append_text (t := ⟨#[45, 45, 13, 10]⟩) rfl _ _ rfl rfl rfl hown3 hA3 (by omega) ?_; intro v4 w4 hown4 hb4; have hcb := hown4.conv))
        go_ret2
        refine ⟨?_, bs hb1 (((hbel.trans hb2).trans hb3).trans hb4)⟩
        rw [hN.out, ← hE.out]
        rfl
end Go.Proofs.YtapbljaohhcpoaaDoor
