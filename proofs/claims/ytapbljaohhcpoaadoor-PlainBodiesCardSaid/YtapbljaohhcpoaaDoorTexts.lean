/-
  ROWS OF TEXTS: strings.Split at one byte and ref07.Split; strings.Join at one byte.
-/
import Derived.Test.YtapbljaohhcpoaaDoorRows1
import Derived.Test.YtapbljaohhcpoaaDoorShelf
import Derived.Test.YtapbljaohhcpoaaDoorPlainJn
import Derived.Test.YtapbljaohhcpoaaDoorDraws
import Derived.Lib.SplitLaws
namespace Go.Proofs.YtapbljaohhcpoaaDoor
open Go.RowKit PT

def txt (x : List UInt8) : Value := .string ⟨x.toArray⟩
/-- the value v is a slice of texts that reads X in the world w -/
def Txts (X : List (List UInt8)) (v : Value) (w : World) : Prop :=
  (X = [] ∧ ∃ a cap, v = .slice a 0 cap ∧ (a = none → cap = 0)) ∨ ∃ b o cap, v = .slice (some ⟨b, o, none⟩) X.length cap ∧ b < w.heap.size ∧ X.length ≤ cap ∧ ∀ j x, X[j]? = some x → w.cell? ⟨b, o + j, none⟩ = some (txt x)
/-- one that the call itself has built since 'base' blocks lay -/
def OT (base : Nat) (X : List (List UInt8)) (v : Value) (w : World) : Prop := OV base 9 (X.map txt) v w
theorem Txts.kept {X : List (List UInt8)} {v : Value} {w w' : World} (h : Txts X v w) (hb : Below w.heap.size w w') : Txts X v w' := by
  rcases h with h | ⟨b, o, cap, rfl, h1, h2, h4⟩
  · exact .inl h
  · refine .inr ⟨b, o, cap, rfl, by have := hb.size; omega, h2, fun j e he => ?_⟩
    rw [← h4 j e he]
    simp only [World.cell?, hb.block b h1]
theorem Txts.len {X : List (List UInt8)} {v : Value} {w : World} (h : Txts X v w) : ∃ a cap, v = .slice a X.length cap := by
  rcases h with ⟨rfl, a, cap, rfl, _⟩ | ⟨b, o, cap, rfl, _⟩
  · exact ⟨_, _, rfl⟩
  · exact ⟨_, _, rfl⟩
theorem Txts.at {X : List (List UInt8)} {v : Value} {w : World} (h : Txts X v w) {k : Nat} (hk : k < X.length) : ∃ b o cap, v = .slice (some ⟨b, o, none⟩) X.length cap ∧ b < w.heap.size ∧ w.cell? ⟨b, o + k, none⟩ = some (txt X[k]) := by
  rcases h with ⟨rfl, _⟩ | ⟨b, o, cap, rfl, h1, h2, h4⟩
  · simp at hk
  · exact ⟨b, o, cap, rfl, h1, h4 k X[k] (List.getElem?_eq_getElem hk)⟩
theorem OT.txts {base : Nat} {X : List (List UInt8)} {v : Value} {w : World} (h : OT base X v w) : Txts X v w := by
  obtain ⟨_, ⟨rfl, hn⟩ | ⟨g, cap, cur, rfl, h2, h3, h4, h5, h6, h7⟩⟩ := h
  · exact .inl ⟨by simpa using hn, none, 0, rfl, fun _ => rfl⟩
  · refine .inr ⟨g, 0, cap, by rw [List.length_map], (Array.getElem?_eq_some_iff.1 h3).1, by simpa using h4, fun j x hx => ?_⟩
    have hj : j < X.length := (List.getElem?_eq_some_iff.1 hx).1
    have hf : (X.map txt)[j]? = some (txt x) := by rw [List.getElem?_map, hx]; rfl
    rw [← h7, List.getElem?_take_of_lt (by rw [List.length_map]; omega)] at hf
    rw [Nat.zero_add]
    simp only [World.cell?, h3]
    simpa using hf
theorem OT.ov {base : Nat} {X : List (List UInt8)} {v : Value} {w : World} (h : OT base X v w) : OV base 9 (X.map txt) v w := h
theorem OT.nil (base : Nat) (w : World) : OT base [] (.slice none 0 0) w := OV.nil _ _ _
theorem OT.kept {base : Nat} {X : List (List UInt8)} {v : Value} {w w' : World} (h : OT base X v w) (hb : Below w.heap.size w w') : OT base X v w' := OV.kept h hb
theorem OT.alloc {base : Nat} {X : List (List UInt8)} {v : Value} {w : World} (h : OT base X v w) (o : Obj) : OT base X v (w.alloc o) := OV.alloc h o
theorem OT.lower {base b2 : Nat} {X : List (List UInt8)} {v : Value} {w : World} (h : OT base X v w) (hb : b2 ≤ base) : OT b2 X v w := by
  obtain ⟨h1, ⟨rfl, hn⟩ | ⟨g, cap, cur, rfl, h2, h3⟩⟩ := h
  · exact ⟨h1, .inl ⟨rfl, hn⟩⟩
  · exact ⟨h1, .inr ⟨g, cap, cur, rfl, by omega, h3⟩⟩
theorem info_str : (Tryd.prog.info? 9).map (fun i => (i.zero, i.size, i.bytes)) = some (some (.string ⟨#[]⟩), 1, 16) := by kernel_rfl

theorem split_any (s : ByteArray) (c : UInt8) (hs : s.size < 4294967281) (w : World) (hS : w.ShapedOpen Tryd.prog) :
    Calls Tryd.prog 50 #[.string s, .string ⟨#[c]⟩] w fun e w' => (∃ v', e = .returned v' ∧ OT w.heap.size (spl c [] s.data.toList) v' w') ∧ Below w.heap.size w w' := by
  refine (Tryd.strings_Split_shaped s ⟨#[c]⟩ w hS hs (Nat.le_refl _)).mono fun e w' ⟨he, hw⟩ => ?_
  have hlen := Lib.splitB_all ⟨#[c]⟩ (Nat.le_refl _) 0 _ s rfl
  have hdat := Lib.splitB_data ⟨#[c]⟩ 0 (Lib.countB s ⟨#[c]⟩) s
  rw [show Lib.splitK (ByteArray.mk #[c]).data.toList 0 (Lib.countB s ⟨#[c]⟩) s.data.toList = spl c [] s.data.toList from split_spl c _] at hdat
  generalize Lib.splitB ⟨#[c]⟩ 0 (Lib.countB s ⟨#[c]⟩) s = B at *
  have hcells : B.map Value.string = (spl c [] s.data.toList).map txt := by
    rw [← hdat, List.map_map]
    exact List.map_congr_left fun x _ => rfl
  have hl2 : (spl c [] s.data.toList).length = Lib.countB s ⟨#[c]⟩ + 1 := by rw [← hdat, List.length_map, hlen]
  have hle := spl_count c s.data.toList []
  rw [size_list] at hle
  subst hw
  rw [hcells]
  rw [← hl2] at he
  have hsz : (spl c [] s.data.toList).length ≤ 4294967291 := by omega
  clear hl2 hlen hdat hcells
  generalize spl c [] s.data.toList = X at *
  refine ⟨⟨_, he, ?_⟩, (Below.refl _ w).alloc (Nat.le_refl _) _⟩
  refine ⟨by simp, .inr ⟨w.heap.size, X.length, (X.map txt).toArray, by rw [List.length_map], Nat.le_refl _, Go.heap_alloc_new w _, by simp, by unfold maxLen; omega, by simp, ?_⟩⟩
  exact List.take_of_length_le (by simp)
theorem join_any (X : List (List UInt8)) (c : UInt8) (v : Value) (w : World) (hX : Txts X v w) (hN : X.length ≤ 1000000000) (hlen : (jn c X).length ≤ 140737488355328) :
    Calls Tryd.prog 63 #[v, .string ⟨#[c]⟩] w fun e w' => e = .returned (.string ⟨(jn c X).toArray⟩) ∧ Below w.heap.size w w' := by
  rcases hX with ⟨rfl, a, cap, rfl, _⟩ | ⟨b, o, cap, rfl, h1, h2, h4⟩
  · exact (Tryd.strings_Join_none a cap ⟨#[c]⟩ w).mono fun e w' ⟨he, hw⟩ => ⟨he, hw ▸ Below.refl _ _⟩
  · have hm : (X.map fun x => ByteArray.mk x.toArray).map (·.data.toList) = X := by
      rw [List.map_map]
      conv => rhs; rw [← List.map_id X]
      exact List.map_congr_left fun x _ => rfl
    have h := Tryd.strings_Join b o cap (X.map fun x => ByteArray.mk x.toArray) ⟨#[c]⟩ w (fun j x hj => by
      rw [List.getElem?_map] at hj
      cases hx : X[j]? with
      | none => rw [hx] at hj; cases hj
      | some y => rw [hx] at hj; cases hj; exact h4 j y hx) h1 (by rw [List.length_map]; omega) (by rw [List.length_map]; exact h2) (by rw [hm]; exact (jn_lib c X) ▸ hlen)
    rw [hm, List.length_map, show Lib.join X (ByteArray.mk #[c]).data.toList = jn c X from jn_lib c X] at h
    exact h

theorem cut_list (s : ByteArray) (f k : Nat) : Value.string (s.extract f k) = txt ((s.data.toList.drop f).take (k - f)) := by
  unfold txt
  congr 1
  apply ByteArray.ext
  apply Array.toList_inj.1
  rw [Lib.extract_data]
theorem cut_snoc (s : ByteArray) (f k : Nat) (hf : f ≤ k) (hk : k < s.size) : (s.data.toList.drop f).take (k - f) ++ [s[k]] = (s.data.toList.drop f).take (k + 1 - f) := by
  rw [show k + 1 - f = (k - f) + 1 by omega, List.take_succ_eq_append_getElem (by rw [List.length_drop, size_list]; omega)]
  congr 2
  rw [List.getElem_drop]
  have : s[k] = s.data.toList[k]'(by simpa using hk) := rfl
  rw [this]
  congr 1
  omega
end Go.Proofs.YtapbljaohhcpoaaDoor
