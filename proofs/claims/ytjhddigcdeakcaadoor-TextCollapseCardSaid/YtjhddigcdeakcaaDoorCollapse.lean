/-
  text.Collapse, ref01.Words, ref01.Collapse: the walks.
-/
import Derived.Test.YtjhddigcdeakcaaDoorBuilder
import Derived.Test.YtjhddigcdeakcaaDoorRows1
import Derived.Test.YtjhddigcdeakcaaDoorIb
import Derived.Test.YtjhddigcdeakcaaDoorStrip
import Derived.Test.YtjhddigcdeakcaaDoorPlainCol
namespace Go.Proofs.YtjhddigcdeakcaaDoor
open Go.RowKit PT

theorem builderLen_any (B b : Nat) (l : List UInt8) (w : World) (h : SB B b l w) :
    Calls Tryd.prog 39 #[.pointer (some ⟨b, 0, none⟩)] w fun e w' => e = .returned (.int .i64 l.length) ∧ w = w' :=
  (Tryd.Builder_Len_f B b _ w h).mono fun e w' ⟨he, hw⟩ => ⟨by rw [he, Lib.byteCells_length], hw.symm⟩

theorem col_yes (s : ByteArray) (k : Nat) (h : k < s.size) (out : List UInt8) (a : Bool) (hb : blk s[k] = true) : col out a (s.data.toList.drop k) = col out (decide (0 < out.length)) (s.data.toList.drop (k + 1)) := by
  rw [drop_cons' s k h, col, if_pos hb]
theorem col_no (s : ByteArray) (k : Nat) (h : k < s.size) (out : List UInt8) (hb : blk s[k] = false) : col out false (s.data.toList.drop k) = col (out ++ [s[k]]) false (s.data.toList.drop (k + 1)) := by
  rw [drop_cons' s k h, col, if_neg (by rw [hb]; simp), if_neg (by simp)]
theorem col_no1 (s : ByteArray) (k : Nat) (h : k < s.size) (out : List UInt8) (hb : blk s[k] = false) : col out true (s.data.toList.drop k) = col (out ++ [32] ++ [s[k]]) false (s.data.toList.drop (k + 1)) := by
  rw [drop_cons' s k h, col, if_neg (by rw [hb]; simp), if_pos rfl]

set_option maxHeartbeats 2000000 in
theorem collapse_any (s : ByteArray) (w : World) (hs : s.size ≤ 1000000) :
    Calls Tryd.prog 24 #[.string s] w fun e w' => e = .returned (.string ⟨(collapse s.data.toList).toArray⟩) ∧ Below w.heap.size w w' := by
  go_enter Tryd.func24, Tryd.ntmps24
  go_wp2_with fail
  go_loopw [8, 4] (fun i f wr => ∃ k : Nat, ∃ out : List UInt8, ∃ a : Bool, k ≤ s.size ∧ i = .int .i64 k ∧ f = .bool a ∧ Hid (col out a (s.data.toList.drop k) = collapse s.data.toList) ∧ out.length ≤ 2 * k ∧ SB w.heap.size w.heap.size out wr ∧ Below w.heap.size w wr) (fun i _ _ => s.size - (intOf i).toNat)
  case atStart => exact ⟨0, [], false, Nat.zero_le _, rfl, rfl, col_start _, Nat.le_refl _, SB.fresh w, (Below.refl _ _).alloc (Nat.le_refl _) _⟩
  case round =>
    obtain ⟨k, out, a, hk, rfl, rfl, hout, hol, hsb, hbel⟩ := hrel
    have hsz := hbel.size
    by_cases hlt : k < s.size
    · cases hb : blk s[k]
      · have hm : s[k] ∉ (ByteArray.mk blanks.toArray).data.toList := by
          intro h
          have : blk s[k] = true := List.contains_iff_mem.2 h
          rw [hb] at this; cases this
        cases a
        · have hT := Lib.hid (col_no s k hlt out hb)
          clear hb
          go_wp2_with fail
          refine (ib_no ⟨blanks.toArray⟩ s[k] _ hm).mono ?_
          clear hm
          rintro e w' ⟨rfl, rfl⟩
          go_wp2_with fail
          refine (writeByte_any w.heap.size w.heap.size out s[k] rfl _ hsb (by omega) hsz).mono ?_
          rintro e w3 ⟨rfl, hs3, hk3⟩
          go_wp2_with fail
          go_roundw
          case rel => exact ⟨k + 1, _, false, by omega, by go_num, rfl, hT.out.symm.trans hout.out, by simp; omega, hs3, hbel.trans hk3.1⟩
          case measure => simp [intOf]; omega
        · have hT := Lib.hid (col_no1 s k hlt out hb)
          clear hb
          go_wp2_with fail
          refine (ib_no ⟨blanks.toArray⟩ s[k] _ hm).mono ?_
          clear hm
          rintro e w' ⟨rfl, rfl⟩
          go_wp2_with fail
          refine (writeByte_any w.heap.size w.heap.size out 32 rfl _ hsb (by omega) hsz).mono ?_
          rintro e w2 ⟨rfl, hs2, hk2⟩
          have hz2 := hk2.1.size
          go_wp2_with fail
          refine (writeByte_any w.heap.size w.heap.size (out ++ [32]) s[k] rfl _ hs2 (by simp; omega) (by omega)).mono ?_
          rintro e w3 ⟨rfl, hs3, hk3⟩
          go_wp2_with fail
          go_roundw
          case rel => exact ⟨k + 1, _, false, by omega, by go_num, rfl, hT.out.symm.trans hout.out, by simp; omega, hs3, (hbel.trans hk2.1).trans hk3.1⟩
          case measure => simp [intOf]; omega
      · have hT := Lib.hid (col_yes s k hlt out a hb)
        have hm : s[k] ∈ (ByteArray.mk blanks.toArray).data.toList := List.contains_iff_mem.1 hb
        clear hb
        go_wp2_with fail
        refine (ib_yes ⟨blanks.toArray⟩ s[k] _ hm).mono ?_
        clear hm
        rintro e w' ⟨z, _, rfl, rfl⟩
        have hz : decide ((0 : Int) ≤ (z : Int)) = true := by simp
        go_wp2_with fail
        refine (builderLen_any w.heap.size w.heap.size out _ hsb).mono ?_
        rintro e w' ⟨rfl, rfl⟩
        go_wp2_with fail
        go_roundw
        case rel => exact ⟨k + 1, out, decide (0 < out.length), by omega, by go_num, by simp, hT.out.symm.trans hout.out, by omega, hsb, hbel⟩
        case measure => simp [intOf]; omega
    · obtain rfl : k = s.size := by omega
      have ha : out = collapse s.data.toList := by
        have := hout.out
        rwa [List.drop_eq_nil_of_le (by simp), col] at this
      have HA := Lib.hid ha
      clear ha
      go_wp2_with fail
      refine (string_any w.heap.size w.heap.size _ _ hsb hsz).mono ?_
      rintro e w1 ⟨rfl, hs1, hk1⟩
      go_wp2_with fail
      go_ret
      exact ⟨ret_str HA.out, hbel.trans hk1.1⟩

def strV (x : List UInt8) : Value := .string ⟨x.toArray⟩
theorem info_str : (Tryd.prog.info? 9).map (fun i => (i.zero, i.size, i.bytes)) = some (some (.string ⟨#[]⟩), 1, 16) := by kernel_rfl
/-- a slice of texts, new -/
def SomeTexts (W : List (List UInt8)) (w : World) (e : Ending) (w' : World) : Prop := ∃ v, e = .returned v ∧ OV w.heap.size 9 (W.map strV) v w' ∧ Below w.heap.size w w'

theorem ext_list (s : ByteArray) (f k : Nat) : Value.string (s.extract f k) = strV ((s.data.toList.drop f).take (k - f)) := by
  unfold strV
  congr 1
  apply ByteArray.ext
  apply Array.toList_inj.1
  rw [Lib.extract_data]
theorem cur_snoc (s : ByteArray) (f k : Nat) (hf : f ≤ k) (hk : k < s.size) : (s.data.toList.drop f).take (k - f) ++ [s[k]] = (s.data.toList.drop f).take (k + 1 - f) := by
  rw [show k + 1 - f = (k - f) + 1 by omega, List.take_succ_eq_append_getElem (by rw [List.length_drop, size_list]; omega)]
  congr 2
  rw [List.getElem_drop]
  have e : f + (k - f) = k := by omega
  simp only [e]
  rfl
theorem wds_drop_no (s : ByteArray) (k : Nat) (h : k < s.size) (cur : List UInt8) (hb : blk s[k] = false) : wds cur (s.data.toList.drop k) = wds (cur ++ [s[k]]) (s.data.toList.drop (k + 1)) := by
  rw [drop_cons' s k h, wds, if_neg (by rw [hb]; simp)]
theorem wds_drop_none (s : ByteArray) (k : Nat) (h : ∀ h : k < s.size, blk s[k] = true) : wds [] (s.data.toList.drop k) = wds [] (s.data.toList.drop (k + 1)) := by
  by_cases hk : k < s.size
  · rw [drop_cons' s k hk, wds, if_pos (h hk), if_pos rfl]
  · rw [List.drop_eq_nil_of_le (by simp; omega), List.drop_eq_nil_of_le (by simp; omega)]
theorem wds_drop_some (s : ByteArray) (k : Nat) (h : ∀ h : k < s.size, blk s[k] = true) (cur : List UInt8) (hc : cur ≠ []) : wds cur (s.data.toList.drop k) = cur :: wds [] (s.data.toList.drop (k + 1)) := by
  by_cases hk : k < s.size
  · rw [drop_cons' s k hk, wds, if_pos (h hk), if_neg hc]
  · rw [List.drop_eq_nil_of_le (by simp; omega), List.drop_eq_nil_of_le (by simp; omega), wds, if_neg hc]; rfl

/-- the relation of Words' loop: the run that has begun (from place fr; -1: none), what is to come -/
def WR (s : ByteArray) (k : Nat) (ws : List (List UInt8)) (fr : Int) : Prop :=
  (fr = -1 ∧ ws ++ wds [] (s.data.toList.drop k) = wds [] s.data.toList) ∨
  (∃ g : Nat, fr = g ∧ g < k ∧ k ≤ s.size ∧ ws ++ wds ((s.data.toList.drop g).take (k - g)) (s.data.toList.drop k) = wds [] s.data.toList)

set_option maxHeartbeats 2000000 in
theorem refWords_any (s : ByteArray) (w : World) (hs : s.size ≤ 1000000) :
    Calls Tryd.prog 42 #[.string s] w (SomeTexts (wds [] s.data.toList) w) := by
  go_enter Tryd.func42, Tryd.ntmps42
  go_wp2_with fail
  go_loopw [5, 4, 3] (fun i f v wr => ∃ k : Nat, ∃ ws : List (List UInt8), ∃ fr : Int, k ≤ s.size + 1 ∧ i = .int .i64 k ∧ f = .int .i64 fr ∧ ws.length ≤ k ∧ WR s k ws fr ∧ OV w.heap.size 9 (ws.map strV) v wr ∧ Below w.heap.size w wr) (fun i _ _ _ => s.size + 1 - (intOf i).toNat)
  case atStart => exact ⟨0, [], -1, Nat.zero_le _, rfl, rfl, Nat.le_refl _, Or.inl ⟨rfl, rfl⟩, OV.nil _ _ _, Below.refl _ _⟩
  case round =>
    obtain ⟨k, ws, fr, hk, rfl, rfl, hwl, hWR, hown, hbel⟩ := hrel
    have hsz := hbel.size
    by_cases hin : ∃ h : k < s.size, blk s[k] = false
    · obtain ⟨hlt, hb⟩ := hin
      have hle : (k : Int) ≤ (s.size : Int) := by omega
      rcases hWR with ⟨rfl, hW⟩ | ⟨g, rfl, hg, _, hW⟩
      · rw [wds_drop_no s k hlt [] hb] at hW
        have HW : WR s (k + 1) ws (k : Int) := Or.inr ⟨k, rfl, by omega, by omega, by
          have := cur_snoc s k k (Nat.le_refl _) hlt
          rw [show k - k = 0 by omega] at this
          rw [← this]
          exact hW⟩
        clear hW
        go_wp2_with fail
        refine (refBlank_any s[k] _).mono ?_
        rintro e w' ⟨rfl, rfl⟩
        rw [hb]
        clear hb
        go_wp2_with fail
        go_roundw
        case rel => exact ⟨k + 1, ws, k, by omega, by go_num, rfl, by omega, HW, hown, hbel⟩
        case measure => simp [intOf]; omega
      · rw [wds_drop_no s k hlt _ hb, cur_snoc s g k (by omega) hlt] at hW
        have HW : WR s (k + 1) ws (g : Int) := Or.inr ⟨g, rfl, by omega, by omega, hW⟩
        have hg0 : decide ((g : Int) < 0) = false := by simp
        clear hW
        go_wp2_with fail
        refine (refBlank_any s[k] _).mono ?_
        rintro e w' ⟨rfl, rfl⟩
        rw [hb]
        clear hb
        go_wp2_with fail
        go_roundw
        case rel => exact ⟨k + 1, ws, g, by omega, by go_num, rfl, by omega, HW, hown, hbel⟩
        case measure => simp [intOf]; omega
    · have hbk : ∀ h : k < s.size, blk s[k] = true := fun h => by
        cases hb : blk s[k]
        · exact absurd ⟨h, hb⟩ hin
        · rfl
      clear hin
      by_cases hend : k ≤ s.size
      · have hle : (k : Int) ≤ (s.size : Int) := by omega
        rcases hWR with ⟨rfl, hW⟩ | ⟨g, rfl, hg, _, hW⟩
        · rw [wds_drop_none s k hbk] at hW
          have HW : WR s (k + 1) ws (-1) := Or.inl ⟨rfl, hW⟩
          clear hW
          by_cases hlt : k < s.size
          · have hb := hbk hlt
            clear hbk
            go_wp2_with fail
            refine (refBlank_any s[k] _).mono ?_
            rintro e w' ⟨rfl, rfl⟩
            rw [hb]
            clear hb
            go_wp2_with fail
            go_roundw
            case rel => exact ⟨k + 1, ws, -1, by omega, by go_num, rfl, by omega, HW, hown, hbel⟩
            case measure => simp [intOf]; omega
          · clear hbk
            go_wp2_with fail
            go_roundw
            case rel => exact ⟨k + 1, ws, -1, by omega, by go_num, rfl, by omega, HW, hown, hbel⟩
            case measure => simp [intOf]; omega
        · have hne : (s.data.toList.drop g).take (k - g) ≠ [] := by
            intro e
            have := congrArg List.length e
            rw [List.length_take, List.length_drop, size_list, List.length_nil] at this
            omega
          rw [wds_drop_some s k hbk _ hne] at hW
          have HW : WR s (k + 1) (ws ++ [(s.data.toList.drop g).take (k - g)]) (-1) := Or.inl ⟨rfl, by rw [← hW, List.append_assoc]; rfl⟩
          clear hW hne
          have hg0 : decide ((0 : Int) ≤ (g : Int)) = true := by simp
          have hgk : (g : Int) ≤ (k : Int) := by omega
          have hgk2 : g ≤ k := by omega
          have hE := Lib.hid (ext_list s g k)
          by_cases hlt : k < s.size
          · have hb := hbk hlt
            clear hbk
            go_wp2_with fail
            refine (refBlank_any s[k] _).mono ?_
            rintro e w' ⟨rfl, rfl⟩
            rw [hb]
            clear hb
            go_wp2_with (at_builtin; refine wpList_append_cell rfl _ _ 45 9 rfl Tryd.underlying45 info_str rfl (by decide) rfl rfl (.string (s.extract g k)) rfl hown (by rw [List.length_map]; omega) hsz ?_; intro v' w1 hown1 hb1)
            go_roundw
            case rel => exact ⟨k + 1, _, -1, by omega, by go_num, rfl, by rw [List.length_append]; simp; omega, HW, by rw [List.map_append]; rw [hE.out] at hown1; exact hown1, hbel.trans hb1⟩
            case measure => simp [intOf]; omega
          · clear hbk
            go_wp2_with (at_builtin; refine wpList_append_cell rfl _ _ 45 9 rfl Tryd.underlying45 info_str rfl (by decide) rfl rfl (.string (s.extract g k)) rfl hown (by rw [List.length_map]; omega) hsz ?_; intro v' w1 hown1 hb1)
            go_roundw
            case rel => exact ⟨k + 1, _, -1, by omega, by go_num, rfl, by rw [List.length_append]; simp; omega, HW, by rw [List.map_append]; rw [hE.out] at hown1; exact hown1, hbel.trans hb1⟩
            case measure => simp [intOf]; omega
      · clear hbk
        have hW : ws = wds [] s.data.toList := by
          rcases hWR with ⟨_, hW⟩ | ⟨g, _, _, h, _⟩
          · rw [List.drop_eq_nil_of_le (by simp; omega), wds, if_pos rfl, List.append_nil] at hW
            exact hW
          · exact absurd h hend
        have HW := Lib.hid hW
        clear hW
        go_wp2_with fail
        go_ret
        exact ⟨_, rfl, by rw [← HW.out]; exact hown, hbel⟩

theorem join_snoc (ws : List (List UInt8)) (x : List UInt8) : join (ws ++ [x]) = (if 0 < ws.length then join ws ++ [32] else []) ++ x := by
  cases ws with
  | nil => simp [join]
  | cons y ws => simp [join]
theorem wds_size : ∀ (l cur : List UInt8), ((wds cur l).map List.length).sum + (wds cur l).length ≤ cur.length + 2 * l.length + 1
  | [], cur => by
    unfold wds
    split
    · simp
    · simp
  | c :: r, cur => by
    have h1 := wds_size r []
    have h2 := wds_size r (cur ++ [c])
    unfold wds
    split
    · split
      · simp only [List.length_cons, List.length_nil] at h1 ⊢; omega
      · simp only [List.map_cons, List.sum_cons, List.length_cons, List.length_nil] at h1 ⊢; omega
    · simp only [List.length_append, List.length_cons, List.length_nil] at h2 ⊢; omega
theorem join_len : ∀ ws : List (List UInt8), (join ws).length ≤ (ws.map List.length).sum + ws.length
  | [] => by simp [join]
  | x :: ws => by
    have : ∀ l : List (List UInt8), (l.flatMap (fun y => 32 :: y)).length = (l.map List.length).sum + l.length := by
      intro l
      induction l with
      | nil => rfl
      | cons y l ih => simp only [List.flatMap_cons, List.length_append, List.length_cons, List.map_cons, List.sum_cons, ih]; omega
    simp only [join, List.length_append, this, List.map_cons, List.sum_cons, List.length_cons]
    omega
theorem sum_take (l : List (List UInt8)) (k : Nat) : ((l.take k).map List.length).sum ≤ (l.map List.length).sum := by
  have := List.take_append_drop k l
  have h := congrArg (fun l => (l.map List.length).sum) this
  simp only [List.map_append, List.sum_append] at h
  omega

set_option maxHeartbeats 2000000 in
theorem refCollapse_any (s : ByteArray) (w : World) (hs : s.size ≤ 1000000) :
    Calls Tryd.prog 25 #[.string s] w fun e w' => e = .returned (.string ⟨(collapse s.data.toList).toArray⟩) ∧ Below w.heap.size w w' := by
  have hws := wds_size s.data.toList []
  rw [size_list, List.length_nil] at hws
  obtain ⟨W, hWd⟩ : ∃ W, W = wds [] s.data.toList := ⟨_, rfl⟩
  have hcol : collapse s.data.toList = join W := by rw [hWd]; rfl
  rw [← hWd] at hws
  rw [hcol]
  have HWd := Lib.hid hWd
  clear hWd hcol
  go_enter Tryd.func25, Tryd.ntmps25
  go_wp2_with fail
  refine (refWords_any s _ hs).mono ?_
  rintro e w1 ⟨v, rfl, hv, hb1⟩
  rw [← HWd.out] at hv
  have hsz1 := hb1.size
  by_cases hnil : W = []
  · subst hnil
    obtain ⟨a, cap, rfl, _⟩ := hv.form
    go_wp2_with fail
    refine wp_loop_rounds 1 ?_
    rw [rounds_succ]
    have hcb := (OB.nil w1.heap.size w1).conv
    go_wp2_with fail
    go_ret
    exact ⟨rfl, hb1⟩
  · have hnil2 : W.map strV ≠ [] := by simpa using hnil
    obtain ⟨g, cap, rfl, hg, hcell⟩ := hv.at hnil2
    have hgw : g < w1.heap.size := by
      have h0 : 0 < W.length := List.length_pos_iff.2 hnil
      exact World.block_lt_of_cell? w1 _ (hcell 0 (strV W[0]) (by simp [h0]))
    have hcx : ∀ k (h : k < W.length) w3, Below w1.heap.size w1 w3 → w3.cell? ⟨g, k, none⟩ = some (strV W[k]) := fun k h w3 hb =>
      (hb.cell (p := ⟨g, k, none⟩) hgw).trans (hcell k (strV W[k]) (by simp [h]))
    have HC := Lib.hid hcx
    clear hcx hcell hv hnil2
    rw [List.length_map]
    go_wp2_with fail
    go_loopw [5, 4] (fun i x wr => ∃ k : Nat, k ≤ W.length ∧ i = .int .i64 k ∧ OB w1.heap.size (join (W.take k)) x wr ∧ Below w1.heap.size w1 wr) (fun i _ _ => W.length - (intOf i).toNat)
    case atStart => exact ⟨0, Nat.zero_le _, rfl, OB.nil _ _, Below.refl _ _⟩
    case round =>
      obtain ⟨k, hk, rfl, hown, hbel⟩ := hrel
      have hsz := hbel.size
      have hjl := join_len (W.take k)
      have hst := sum_take W k
      have hlt' : (W.take k).length = k := by rw [List.length_take]; omega
      by_cases hlt : k < W.length
      · have hJ : join (W.take (k + 1)) = (if 0 < k then join (W.take k) ++ [32] else []) ++ W[k] := by
          rw [List.take_succ_eq_append_getElem hlt, join_snoc, hlt']
        have hwk : W[k].length ≤ (W.map List.length).sum := by
          have h1 := sum_take W (k + 1)
          rw [List.take_succ_eq_append_getElem hlt, List.map_append, List.sum_append] at h1
          simp only [List.map_cons, List.map_nil, List.sum_cons, List.sum_nil] at h1
          omega
        have HJ := Lib.hid hJ
        clear hJ
        have hwz : (ByteArray.mk W[k].toArray).size = W[k].length := size_mk _
        have hk0 : (0 : Int) ≤ (k : Int) := by omega
        have hk1 : (k : Int) < (W.length : Int) := by omega
        by_cases h0 : 0 < k
        · have h0' : (0 : Int) < (k : Int) := by omega
          have hl2 : (join (W.take k) ++ [32]).length + (ByteArray.mk W[k].toArray).size < 70368744177664 := by rw [hwz, List.length_append]; simp only [List.length_cons, List.length_nil]; omega
          go_wp2_with (first | (at_builtin; refine wpList_append_byte rfl _ _ rfl rfl rfl 32 rfl hown (by omega) hsz ?_; intro v2 w2 hown2 hb2; have hc2 := HC.out k hlt w2 (hbel.trans hb2); unfold strV at hc2; have hz2 := hb2.size) | (at_builtin; refine wpList_append_text rfl _ _ rfl rfl rfl hown2 hl2 (by omega) ?_; intro v3 w3 hown3 hb3))
          go_roundw
          case rel => exact ⟨k + 1, by omega, by go_num, by rw [HJ.out, if_pos h0]; exact hown3, (hbel.trans hb2).trans hb3⟩
          case measure => simp [intOf]; omega
        · obtain rfl : k = 0 := by omega
          have hc2 := HC.out 0 hlt wr hbel
          unfold strV at hc2
          have hl2 : (join (W.take 0)).length + (ByteArray.mk W[0].toArray).size < 70368744177664 := by rw [hwz]; omega
          go_wp2_with (at_builtin; refine wpList_append_text rfl _ _ rfl rfl rfl hown hl2 hsz ?_; intro v3 w3 hown3 hb3)
          go_roundw
          case rel => exact ⟨1, by omega, by go_num, by rw [HJ.out, if_neg (by omega)]; exact hown3, hbel.trans hb3⟩
          case measure => simp [intOf]; omega
      · obtain rfl : k = W.length := by omega
        have hcb := hown.conv
        rw [List.take_length] at hcb
        go_wp2_with fail
        go_ret
        exact ⟨rfl, bs hb1 hbel⟩
end Go.Proofs.YtjhddigcdeakcaaDoor
