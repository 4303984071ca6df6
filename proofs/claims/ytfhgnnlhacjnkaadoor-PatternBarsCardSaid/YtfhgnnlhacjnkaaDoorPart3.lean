import Derived.Test.YtfhgnnlhacjnkaaDoorRows
import Derived.WalkKit
import Derived.Lib.ConvBytes
import Derived.Lib.Hide
import Derived.Test.YtfhgnnlhacjnkaaDoorPart2
/-
  SMALL HELPERS ON WORLDS, used by all walks of this seat.
-/
namespace Go.Proofs.YtfhgnnlhacjnkaaDoor
set_option linter.unusedVariables false
set_option linter.unusedSimpArgs false
open Go.RowKit

theorem ret_bool {a b : Bool} (h : a = b) : Ending.returned (.bool a) = .returned (.bool b) := by rw [h]
theorem ret_int {k : IntKind} {a b : Int} (h : a = b) : Ending.returned (.int k a) = .returned (.int k b) := by rw [h]
theorem ret_str {a b : List UInt8} (h : a = b) : Ending.returned (.string ⟨a.toArray⟩) = .returned (.string ⟨b.toArray⟩) := by rw [h]
theorem byteEq_yes {a b : UInt8} (h : a = b) : ((a.toNat : Int) == (b.toNat : Int)) = true := by subst h; simp
theorem byteEq_no {a b : UInt8} (h : a ≠ b) : ((a.toNat : Int) == (b.toNat : Int)) = false := by
  rw [beq_eq_false_iff_ne]
  intro e
  exact h (UInt8.toNat_inj.1 (by omega))
theorem byteNe_yes {a b : UInt8} (h : a = b) : ((a.toNat : Int) != (b.toNat : Int)) = false := by subst h; simp
theorem byteNe_no {a b : UInt8} (h : a ≠ b) : ((a.toNat : Int) != (b.toNat : Int)) = true := by
  rw [bne, byteEq_no h]; rfl
theorem intNe {a b : Int} (h : a ≠ b) : (a == b) = false := by rw [beq_eq_false_iff_ne]; exact h
theorem addr_add (b o j : Nat) : (⟨b, o, none⟩ : Addr).add j = ⟨b, o + j, none⟩ := by
  simp only [Addr.add]
  split
  · rename_i h; subst h; rfl
  · rfl

/-- behind '[]byte(s)' -/
theorem bytesWorld_below (w : World) (e : TypeId) (s : ByteArray) : Below w.heap.size w (Lib.bytesWorld w e s) := by
  refine ⟨rfl, rfl, rfl, by rw [Lib.bytesWorld_size]; omega, fun k hk => Lib.bytesWorld_at_old w e s k hk⟩

theorem frozen_bytesWorld (w : World) (e : TypeId) (s : ByteArray) (j : Nat) (hj : j < s.size) : (Lib.bytesWorld w e s).frozen? ⟨w.heap.size, j, none⟩ = false := by
  have := Lib.bytesWorld_at_new w e s
  have hz : s.size ≤ (Lib.bytesCells w e s).size := by simp [Lib.bytesCells]
  simp [World.frozen?, this]
  omega

/-- one call behind another -/
theorem bs {w a b : World} (h : Below w.heap.size w a) (k : Below a.heap.size a b) : Below w.heap.size w b := h.trans (k.mono h.size)
/-- the size of a text that is told by a list -/
theorem size_mk (l : List UInt8) : (ByteArray.mk l.toArray).size = l.length := by simp [ByteArray.size]
theorem size_list (s : ByteArray) : s.data.toList.length = s.size := by simp
theorem mk_list (s : ByteArray) : ByteArray.mk s.data.toList.toArray = s := rfl
theorem ret_text {a b : ByteArray} (h : a = b) : Ending.returned (.string a) = .returned (.string b) := by rw [h]
theorem mk_append (a b : List UInt8) : ByteArray.mk a.toArray ++ ByteArray.mk b.toArray = ⟨(a ++ b).toArray⟩ := by
  apply ByteArray.ext
  simp

end Go.Proofs.YtfhgnnlhacjnkaaDoor

/-
  What stays of memory below a block.
-/
namespace Go.Proofs.YtfhgnnlhacjnkaaDoor
set_option linter.unusedVariables false
set_option linter.unusedSimpArgs false
open Go.RowKit

theorem cellK {base b o : Nat} {w w' : World} (hb : Below base w w') (h : b < base) {u : Value} (hc : w.cell? ⟨b, o, none⟩ = some u) : w'.cell? ⟨b, o, none⟩ = some u := by
  rw [← hc]
  simp only [World.cell?, hb.block b h]
theorem blk_kept {W w' : World} {g : Nat} {o : Obj} (hb : Below W.heap.size W w') (h : W.heap[g]? = some o) : w'.heap[g]? = some o := by
  rw [hb.block _ (Array.getElem?_eq_some_iff.1 h).1, h]
end Go.Proofs.YtfhgnnlhacjnkaaDoor

/-
  A PATTERN THAT IS READ, as it lies in the memory (chapter 09): classes, groups, pieces.
-/
namespace Go.Proofs.YtfhgnnlhacjnkaaDoor
set_option linter.unusedVariables false
set_option linter.unusedSimpArgs false
open Go.RowKit PT

/-- the blocks from number B on -/
abbrev Ge (B k : Nat) : Prop := B ≤ k
/-- what lies in these blocks is as it was -/
structure Hi (S : Nat → Prop) (w w' : World) : Prop where
  size : w.heap.size ≤ w'.heap.size
  block : ∀ k, S k → k < w.heap.size → w'.heap[k]? = w.heap[k]?
theorem Hi.of_below {S : Nat → Prop} {w w' : World} (h : Below w.heap.size w w') : Hi S w w' := ⟨h.size, fun k _ hk => h.block k hk⟩
theorem Hi.trans {S : Nat → Prop} {a b c : World} (h : Hi S a b) (k : Hi S b c) : Hi S a c := ⟨Nat.le_trans h.size k.size, fun i hi hk => (k.block i hi (by have := h.size; omega)).trans (h.block i hi hk)⟩
theorem Hi.cell {S : Nat → Prop} {w w' : World} (h : Hi S w w') {b o : Nat} (hB : S b) (hb : b < w.heap.size) {u : Value} (hc : w.cell? ⟨b, o, none⟩ = some u) : w'.cell? ⟨b, o, none⟩ = some u := by
  simp only [World.cell?] at hc ⊢
  rw [h.block b hB hb]
  exact hc
/-- all but block number r (the reader's) is as it was -/
structure Rd (r : Nat) (w w' : World) : Prop where
  os : w'.os = w.os
  tape : w'.tape = w.tape
  output : w'.output = w.output
  size : w.heap.size ≤ w'.heap.size
  block : ∀ k, k < w.heap.size → k ≠ r → w'.heap[k]? = w.heap[k]?
theorem Rd.refl (r : Nat) (w : World) : Rd r w w := ⟨rfl, rfl, rfl, Nat.le_refl _, fun _ _ _ => rfl⟩
theorem Rd.trans {r : Nat} {a b c : World} (h : Rd r a b) (k : Rd r b c) : Rd r a c := ⟨k.os.trans h.os, k.tape.trans h.tape, k.output.trans h.output, Nat.le_trans h.size k.size, fun i hi hr => (k.block i (by have := h.size; omega) hr).trans (h.block i hi hr)⟩
theorem Rd.of_below {r : Nat} {w w' : World} (h : Below w.heap.size w w') : Rd r w w' := ⟨h.os, h.tape, h.output, h.size, fun k hk _ => h.block k hk⟩
theorem Rd.setCell (r i : Nat) (u : Value) (w : World) : Rd r w (w.setCell ⟨r, i, none⟩ u) := ⟨rfl, rfl, rfl, by simp [World.setCell], fun k _ hr => by simp only [World.setCell, Array.getElem?_modify]; rw [if_neg (by intro e; exact hr e.symm)]⟩
theorem Rd.hi {r : Nat} {S : Nat → Prop} {w w' : World} (h : Rd r w w') (hB : ¬ S r) : Hi S w w' := ⟨h.size, fun k hk hs => h.block k hs (fun e => hB (e ▸ hk))⟩
theorem Rd.below {r B : Nat} {w w' : World} (h : Rd r w w') (hB : B ≤ r) (hs : B ≤ w.heap.size) : Below B w w' := ⟨h.os, h.tape, h.output, h.size, fun k hk => h.block k (by omega) (by omega)⟩
/-- how often: within what two digits say -/
def OftB (lo : Nat) (hi : Option Nat) : Prop := lo ≤ 2000000 ∧ ∀ h, hi = some h → h ≤ 2000000
/-- a slice whose cells are these (n elements) -/
def RowAt (S : Nat → Prop) (n : Nat) (vs : List Value) (v : Value) (w : World) : Prop := ∃ a cap, v = .slice a n cap ∧ n ≤ 9223372036854775807 ∧ ((vs = [] ∧ n = 0) ∨ ∃ b o, a = some ⟨b, o, none⟩ ∧ S b ∧ b < w.heap.size ∧ ∀ j u, vs[j]? = some u → w.cell? ⟨b, o + j, none⟩ = some u)
theorem RowAt.kept {S : Nat → Prop} {n : Nat} {vs : List Value} {v : Value} {w w' : World} (h : RowAt S n vs v w) (hb : Hi S w w') : RowAt S n vs v w' := by
  obtain ⟨a, cap, rfl, hN, h | ⟨b, o, rfl, h0, h1, h2⟩⟩ := h
  · exact ⟨a, cap, rfl, hN, .inl h⟩
  · exact ⟨_, cap, rfl, hN, .inr ⟨b, o, rfl, h0, by have := hb.size; omega, fun j u hu => hb.cell h0 h1 (h2 j u hu)⟩⟩
theorem RowAt.form {S : Nat → Prop} {n : Nat} {vs : List Value} {v : Value} {w : World} (h : RowAt S n vs v w) : ∃ a cap, v = .slice a n cap := by
  obtain ⟨a, cap, rfl, _⟩ := h
  exact ⟨a, cap, rfl⟩
theorem RowAt.max {S : Nat → Prop} {n : Nat} {vs : List Value} {v : Value} {w : World} (h : RowAt S n vs v w) : n ≤ 9223372036854775807 := by
  obtain ⟨_, _, _, h, _⟩ := h
  exact h
theorem RowAt.at {S : Nat → Prop} {n : Nat} {vs : List Value} {v : Value} {w : World} (h : RowAt S n vs v w) (hn : 0 < n) : ∃ b o cap, v = .slice (some ⟨b, o, none⟩) n cap ∧ b < w.heap.size ∧ ∀ j u, vs[j]? = some u → w.cell? ⟨b, o + j, none⟩ = some u := by
  obtain ⟨a, cap, rfl, _, h | ⟨b, o, rfl, _, h1, h2⟩⟩ := h
  · omega
  · exact ⟨b, o, cap, rfl, h1, h2⟩
def spanCells (s : Nat × Nat) : List Value := [.int .i32 s.1, .int .i32 s.2]
def hiV (h : Option Nat) : Int := match h with
  | some n => n
  | none => -1
/-- an atom that is a class (tc: the type of its pointer) -/
def ClsV (S : Nat → Prop) (tc : TypeId) (d : Den) (v : Value) (w : World) : Prop := ∃ (c : Klass) (g : Nat) (sv : Value), d = clsL c.fits ∧ v = .iface tc (.pointer (some ⟨g, 0, none⟩)) ∧ S g ∧ g < w.heap.size ∧ w.cell? ⟨g, 0, none⟩ = some sv ∧ w.cell? ⟨g, 1, none⟩ = some (.bool c.neg) ∧ RowAt S c.sp.length (c.sp.flatMap spanCells) sv w
theorem ClsV.kept {S : Nat → Prop} {tc : TypeId} {d : Den} {v : Value} {w w' : World} (h : ClsV S tc d v w) (hb : Hi S w w') : ClsV S tc d v w' := by
  obtain ⟨c, g, sv, rfl, rfl, h0, hg, h1, h2, h3⟩ := h
  exact ⟨c, g, sv, rfl, rfl, h0, by have := hb.size; omega, hb.cell h0 hg h1, hb.cell h0 hg h2, h3.kept hb⟩
def pceCells (a : Value) (p : Pce) : List Value := [a, .int .i64 p.lo, .int .i64 (hiV p.hi)]
/-- a row of pieces, by how an atom lies -/
def RowV (S : Nat → Prop) (A : Den → Value → World → Prop) (ps : List Pce) (v : Value) (w : World) : Prop := ∃ as_ : List Value, as_.length = ps.length ∧ RowAt S ps.length ((List.zipWith pceCells as_ ps).flatten) v w ∧ ∀ (j : Nat) (a : Value) (p : Pce), as_[j]? = some a → ps[j]? = some p → A p.d a w ∧ OftB p.lo p.hi
theorem RowV.kept {S : Nat → Prop} {A : Den → Value → World → Prop} (hA : ∀ d v w w', A d v w → Hi S w w' → A d v w') {ps : List Pce} {v : Value} {w w' : World} (h : RowV S A ps v w) (hb : Hi S w w') : RowV S A ps v w' := by
  obtain ⟨as_, h1, h2, h3⟩ := h
  exact ⟨as_, h1, h2.kept hb, fun j a p ha hp => ⟨hA _ _ _ _ (h3 j a p ha hp).1 hb, (h3 j a p ha hp).2⟩⟩
def RowsV (S : Nat → Prop) (A : Den → Value → World → Prop) (rs : List (List Pce)) (v : Value) (w : World) : Prop := ∃ vs : List Value, vs.length = rs.length ∧ RowAt S rs.length vs v w ∧ ∀ (j : Nat) (u : Value) (ps : List Pce), vs[j]? = some u → rs[j]? = some ps → RowV S A ps u w
theorem RowsV.kept {S : Nat → Prop} {A : Den → Value → World → Prop} (hA : ∀ d v w w', A d v w → Hi S w w' → A d v w') {rs : List (List Pce)} {v : Value} {w w' : World} (h : RowsV S A rs v w) (hb : Hi S w w') : RowsV S A rs v w' := by
  obtain ⟨vs, h1, h2, h3⟩ := h
  exact ⟨vs, h1, h2.kept hb, fun j u ps hu hp => (h3 j u ps hu hp).kept hA hb⟩
/-- an atom in which groups lie k deep (tg: the type of a group's pointer) -/
def AtomV (S : Nat → Prop) (tc tg : TypeId) : Nat → Den → Value → World → Prop
  | 0, d, v, w => ClsV S tc d v w
  | k + 1, d, v, w => ClsV S tc d v w ∨ ∃ (rs : List (List Pce)) (g : Nat) (rv : Value), d = grpL rs ∧ v = .iface tg (.pointer (some ⟨g, 0, none⟩)) ∧ S g ∧ g < w.heap.size ∧ w.cell? ⟨g, 0, none⟩ = some rv ∧ RowsV S (AtomV S tc tg k) rs rv w
theorem AtomV.kept {S : Nat → Prop} {tc tg : TypeId} : ∀ (k : Nat) (d : Den) (v : Value) (w w' : World), AtomV S tc tg k d v w → Hi S w w' → AtomV S tc tg k d v w'
  | 0, _, _, _, _, h, hb => ClsV.kept h hb
  | k + 1, d, v, w, w', h, hb => by
    rcases h with h | ⟨rs, g, rv, h1, h2, h0, hg, h3, h4⟩
    · exact .inl (h.kept hb)
    · exact .inr ⟨rs, g, rv, h1, h2, h0, by have := hb.size; omega, hb.cell h0 hg h3, h4.kept (AtomV.kept k) hb⟩
theorem AtomV.cls {S : Nat → Prop} {tc tg : TypeId} {k : Nat} {d : Den} {v : Value} {w : World} (h : ClsV S tc d v w) : AtomV S tc tg k d v w := by
  cases k with
  | zero => exact h
  | succ k => exact .inl h
/-- piece number j of a row -/
theorem RowV.at {S : Nat → Prop} {A : Den → Value → World → Prop} {ps : List Pce} {v : Value} {w : World} (h : RowV S A ps v w) {j : Nat} (hj : j < ps.length) : ∃ b o cap a, v = .slice (some ⟨b, o, none⟩) ps.length cap ∧ b < w.heap.size ∧ (A ps[j].d a w ∧ OftB ps[j].lo ps[j].hi) ∧
    w.cell? ⟨b, o + j * 3, none⟩ = some a ∧ w.cell? ⟨b, o + j * 3 + 1, none⟩ = some (.int .i64 ps[j].lo) ∧ w.cell? ⟨b, o + j * 3 + 2, none⟩ = some (.int .i64 (hiV ps[j].hi)) := by
  obtain ⟨as_, h1, h2, h3⟩ := h
  obtain ⟨b, o, cap, rfl, hb, hc⟩ := h2.at (by omega)
  have ha : as_[j]? = some (as_[j]'(by omega)) := List.getElem?_eq_getElem (by omega)
  have key : ∀ (l : List Value) (q : List Pce) (i : Nat), l.length = q.length → ∀ (hi : i < q.length) (hl : i < l.length) (e : Nat) (u : Value), (pceCells l[i] q[i])[e]? = some u → ((List.zipWith pceCells l q).flatten)[i * 3 + e]? = some u := by
    intro l
    induction l with
    | nil => intro q i h hi hl; simp at hl
    | cons x l ih =>
      intro q i h hi hl e u he
      cases q with
      | nil => simp at hi
      | cons y q =>
        cases i with
        | zero =>
          have he3 : e < 3 := by
            have := (List.getElem?_eq_some_iff.1 he).1
            simpa [pceCells] using this
          rw [List.zipWith_cons_cons, List.flatten_cons, Nat.zero_mul, Nat.zero_add, List.getElem?_append_left (by simpa [pceCells] using he3)]
          exact he
        | succ i =>
          rw [List.zipWith_cons_cons, List.flatten_cons, List.getElem?_append_right (by simp [pceCells]; omega)]
          have := ih q i (by simpa using h) (by simpa using hi) (by simpa using hl) e u he
          rw [show (i + 1) * 3 + e - (pceCells x y).length = i * 3 + e by simp [pceCells]; omega]
          exact this
  refine ⟨b, o, cap, as_[j]'(by omega), rfl, hb, h3 j _ _ ha (List.getElem?_eq_getElem hj), ?_, ?_, ?_⟩
  · have := hc (j * 3 + 0) _ (key as_ ps j h1 hj (by omega) 0 _ rfl)
    simpa using this
  · have := hc (j * 3 + 1) _ (key as_ ps j h1 hj (by omega) 1 _ rfl)
    rwa [← Nat.add_assoc] at this
  · have := hc (j * 3 + 2) _ (key as_ ps j h1 hj (by omega) 2 _ rfl)
    rwa [← Nat.add_assoc] at this
theorem RowsV.at {S : Nat → Prop} {A : Den → Value → World → Prop} {rs : List (List Pce)} {v : Value} {w : World} (h : RowsV S A rs v w) {j : Nat} (hj : j < rs.length) : ∃ b o cap u, v = .slice (some ⟨b, o, none⟩) rs.length cap ∧ b < w.heap.size ∧ w.cell? ⟨b, o + j, none⟩ = some u ∧ RowV S A rs[j] u w := by
  obtain ⟨vs, h1, h2, h3⟩ := h
  obtain ⟨b, o, cap, rfl, hb, hc⟩ := h2.at (by omega)
  have hv : vs[j]? = some (vs[j]'(by omega)) := List.getElem?_eq_getElem (by omega)
  exact ⟨b, o, cap, vs[j]'(by omega), rfl, hb, hc j _ hv, h3 j _ _ hv (List.getElem?_eq_getElem hj)⟩
/-! the same in other blocks -/
theorem RowAt.mono {S S' : Nat → Prop} {n : Nat} {vs : List Value} {v : Value} {w : World} (h : RowAt S n vs v w) (hS : ∀ k, S k → k < w.heap.size → S' k) : RowAt S' n vs v w := by
  obtain ⟨a, cap, rfl, hN, h | ⟨b, o, rfl, h0, h1, h2⟩⟩ := h
  · exact ⟨a, cap, rfl, hN, .inl h⟩
  · exact ⟨_, cap, rfl, hN, .inr ⟨b, o, rfl, hS b h0 h1, h1, h2⟩⟩
theorem ClsV.mono {S S' : Nat → Prop} {tc : TypeId} {d : Den} {v : Value} {w : World} (h : ClsV S tc d v w) (hS : ∀ k, S k → k < w.heap.size → S' k) : ClsV S' tc d v w := by
  obtain ⟨c, g, sv, rfl, rfl, h0, hg, h1, h2, h3⟩ := h
  exact ⟨c, g, sv, rfl, rfl, hS g h0 hg, hg, h1, h2, h3.mono hS⟩
theorem RowV.mono {S S' : Nat → Prop} {A A' : Den → Value → World → Prop} {ps : List Pce} {v : Value} {w : World} (h : RowV S A ps v w) (hS : ∀ k, S k → k < w.heap.size → S' k) (hA : ∀ d v, A d v w → A' d v w) : RowV S' A' ps v w := by
  obtain ⟨as_, h1, h2, h3⟩ := h
  exact ⟨as_, h1, h2.mono hS, fun j a p ha hp => ⟨hA _ _ (h3 j a p ha hp).1, (h3 j a p ha hp).2⟩⟩
theorem RowsV.mono {S S' : Nat → Prop} {A A' : Den → Value → World → Prop} {rs : List (List Pce)} {v : Value} {w : World} (h : RowsV S A rs v w) (hS : ∀ k, S k → k < w.heap.size → S' k) (hA : ∀ d v, A d v w → A' d v w) : RowsV S' A' rs v w := by
  obtain ⟨vs, h1, h2, h3⟩ := h
  exact ⟨vs, h1, h2.mono hS, fun j u ps hu hp => (h3 j u ps hu hp).mono hS hA⟩
theorem AtomV.mono {S S' : Nat → Prop} {tc tg : TypeId} : ∀ (k : Nat) (d : Den) (v : Value) (w : World), AtomV S tc tg k d v w → (∀ k, S k → k < w.heap.size → S' k) → AtomV S' tc tg k d v w
  | 0, _, _, _, h, hS => ClsV.mono h hS
  | k + 1, d, v, w, h, hS => by
    rcases h with h | ⟨rs, g, rv, h1, h2, h0, hg, h3, h4⟩
    · exact .inl (h.mono hS)
    · exact .inr ⟨rs, g, rv, h1, h2, hS g h0 hg, hg, h3, h4.mono hS (fun d v h => AtomV.mono k d v w h hS)⟩
end Go.Proofs.YtfhgnnlhacjnkaaDoor

/-
  PLAIN LAWS: a text that is UTF-8, read sign by sign (the pattern's reader): no program in sight.
-/
namespace Go.Proofs.YtfhgnnlhacjnkaaDoor.PT
set_option linter.unusedVariables false
set_option linter.unusedSimpArgs false
open Go.Lib (decodeN decodeL validD)

theorem sigs_take {l : List UInt8} (h : l ≠ []) (v : validD l = true) : sigs l = (decodeL l).1 :: sigs (l.drop (decodeL l).2) ∧ validD (l.drop (decodeL l).2) = true ∧ 1 ≤ (decodeL l).2 ∧ (decodeL l).2 ≤ l.length := by
  refine ⟨sigs_step l h, ?_, decodeL_pos l, Lib.decodeL_le l h⟩
  rw [validD_step l h] at v
  split at v
  · cases v
  · exact v
/-- the first byte, where the first sign is low -/
theorem head_low {c : UInt8} {r : List UInt8} (h : (decodeL (c :: r)).1 < 128) : (decodeL (c :: r)).1 = c.toNat ∧ (decodeL (c :: r)).2 = 1 ∧ sigs (c :: r) = c.toNat :: sigs r := by
  have hc := low_byte c r h
  rw [decodeL_low c r hc]
  exact ⟨rfl, rfl, sigs_low c r hc⟩
/-- a byte from 128 on begins no low sign -/
theorem head_high {c : UInt8} {r : List UInt8} (h : ¬ c.toNat < 128) : 128 ≤ (decodeL (c :: r)).1 := by
  rcases Nat.lt_or_ge (decodeL (c :: r)).1 128 with h1 | h1
  · exact absurd (low_byte c r h1) h
  · exact h1
theorem sigs_cons {c : UInt8} {r : List UInt8} : ∃ x t, sigs (c :: r) = x :: t ∧ ((c.toNat < 128 ∧ x = c.toNat ∧ t = sigs r) ∨ (128 ≤ c.toNat ∧ 128 ≤ x)) := by
  by_cases hc : c.toNat < 128
  · exact ⟨_, _, sigs_low c r hc, .inl ⟨hc, rfl, rfl⟩⟩
  · exact ⟨_, _, sigs_step (c :: r) (by simp), .inr ⟨by omega, head_high hc⟩⟩
theorem digB_byte {c : UInt8} {r : List UInt8} {x : Nat} {t : List Nat} (h : sigs (c :: r) = x :: t) : digB x = (decide (48 ≤ c.toNat) && decide (c.toNat ≤ 57)) := by
  obtain ⟨x', t', h1, h2⟩ := sigs_cons (c := c) (r := r)
  rw [h1] at h
  cases h
  unfold digB
  rcases h2 with ⟨_, rfl, _⟩ | ⟨h3, h4⟩
  · rfl
  · rw [decide_eq_false (show ¬ x ≤ 57 by omega), decide_eq_false (show ¬ c.toNat ≤ 57 by omega), Bool.and_false, Bool.and_false]
/-- no sign is beyond the greatest, and none of a text that is UTF-8 is a surrogate: as a rune it is right -/
theorem decode_max (l : List UInt8) : (decodeL l).1 ≤ 1114111 := by
  have hb : ∀ i, (l.getD i 0).toNat < 256 := fun i => (l.getD i 0).toNat_lt
  rw [Lib.decodeL_N]
  unfold decodeN
  have h0 := hb 0
  have h1 := hb 1
  have h2 := hb 2
  have h3 := hb 3
  split
  · show (l.getD 0 0).toNat ≤ 1114111; omega
  split
  · split
    · show (l.getD 0 0).toNat % 32 * 64 + (l.getD 1 0).toNat % 64 ≤ 1114111; omega
    · show 65533 ≤ 1114111; omega
  split
  · split
    · rename_i h; exact h.2.elim (fun h => by show _ ≤ 1114111; simp only at *; omega) (fun h => h.2)
    · show 65533 ≤ 1114111; omega
  split
  · split
    · rename_i h; exact h.2.elim (fun h => by show _ ≤ 1114111; simp only at *; omega) (fun h => h.2)
    · show 65533 ≤ 1114111; omega
  · show 65533 ≤ 1114111; omega
theorem sigs_max : ∀ (n : Nat) (l : List UInt8), l.length ≤ n → ∀ x ∈ sigs l, x ≤ 1114111
  | _, [], _, x, h => by simp [sigs_nil] at h
  | 0, c :: r, h, _, _ => by simp at h
  | n + 1, c :: r, h, x, hx => by
    have hp := decodeL_pos (c :: r)
    rw [sigs_step _ (by simp)] at hx
    rcases List.mem_cons.1 hx with rfl | hx
    · exact decode_max _
    · exact sigs_max n _ (by rw [List.length_drop]; omega) x hx
end Go.Proofs.YtfhgnnlhacjnkaaDoor.PT

/-
  PLAIN LAWS ON PATTERNS (chapter 09): where a piece's loop ends: no program in sight.
-/
namespace Go.Proofs.YtfhgnnlhacjnkaaDoor.PT
set_option linter.unusedVariables false
set_option linter.unusedSimpArgs false

theorem leftL_le (a : List Bool) : leftL a ≤ a.length := List.countP_le_length
theorem again_fix {n : Nat} {d : List Bool → List Bool} (hd : Adds n d) {a : List Bool} (ha : a.length = n) {k : Nat} (h : againL d (iterL (againL d) k a) = iterL (againL d) k a) : iterL (againL d) k a = iterL (againL d) n a := by
  have hn := more_end hd n a ha (by have := leftL_le a; omega)
  rcases Nat.le_total k n with hk | hk
  · exact (again_any hd h n hk).symm
  · exact again_any hd hn k hk
/-- the places behind the rounds that must be -/
def lowL (p : Pce) (t : List Nat) (a : List Bool) : List Bool := iterL (p.d t) p.lo a
def sofarL (p : Pce) (t : List Nat) (a : List Bool) (k : Nat) : List Bool := iterL (againL (p.d t)) k (lowL p t a)
theorem lowL_len {p : Pce} {t : List Nat} {a : List Bool} (hd : AddsD p.d) (ha : a.length = t.length + 1) : (lowL p t a).length = t.length + 1 := ((hd t).iter p.lo).len a ha
theorem sofarL_len {p : Pce} {t : List Nat} {a : List Bool} (hd : AddsD p.d) (ha : a.length = t.length + 1) (k : Nat) : (sofarL p t a k).length = t.length + 1 := ((hd t).more.iter k).len _ (lowL_len hd ha)
theorem sofarL_succ (p : Pce) (t : List Nat) (a : List Bool) (k : Nat) : sofarL p t a (k + 1) = againL (p.d t) (sofarL p t a k) := iterL_succ _ k _
theorem pce_end {p : Pce} {t : List Nat} {a : List Bool} {h : Nat} (hh : p.hi = some h) : pceL p t a = sofarL p t a (h - p.lo) := by
  unfold pceL sofarL lowL
  rw [hh]
theorem pce_stop {p : Pce} {t : List Nat} {a : List Bool} (hd : AddsD p.d) (ha : a.length = t.length + 1) {k : Nat} (hk : ∀ h, p.hi = some h → k ≤ h - p.lo) (hf : againL (p.d t) (sofarL p t a k) = sofarL p t a k) : pceL p t a = sofarL p t a k := by
  cases hh : p.hi with
  | some h =>
    rw [pce_end hh]
    exact again_any (hd t) hf _ (hk h hh)
  | none =>
    have h1 := again_fix (hd t) (lowL_len hd ha) hf
    show pceL p t a = _
    unfold pceL
    rw [hh]
    exact h1.symm
/-- each round that finds more leaves fewer places -/
theorem sofar_up {p : Pce} {t : List Nat} {a : List Bool} (hd : AddsD p.d) (ha : a.length = t.length + 1) {k : Nat} (hf : againL (p.d t) (sofarL p t a k) ≠ sofarL p t a k) : leftL (sofarL p t a (k + 1)) < leftL (sofarL p t a k) := by
  rw [sofarL_succ]
  exact more_up (hd t) (sofarL_len hd ha k) hf
end Go.Proofs.YtfhgnnlhacjnkaaDoor.PT

/-
  PLAIN LAWS ON PATTERNS (chapter 09): places: what is left behind a piece is an end of the list: no program in sight.
-/
namespace Go.Proofs.YtfhgnnlhacjnkaaDoor.PT
set_option linter.unusedVariables false
set_option linter.unusedSimpArgs false

/-- the place behind: the length less what is left; none: -1 -/
def endV (n : Nat) (o : Option (List Nat)) : Int := match o with
  | none => -1
  | some r => ((n - r.length : Nat) : Int)
theorem suf_drop {l r : List Nat} (h : r <:+ l) : l.drop (l.length - r.length) = r := (List.suffix_iff_eq_drop.1 h).symm
theorem suf_cons {c : Nat} {l r : List Nat} (h : r <:+ l) : r <:+ c :: l := h.trans (List.suffix_cons c l)
theorem suf_of {c : Nat} {l r : List Nat} (h : (c :: r) <:+ l) : r <:+ l := (List.suffix_cons c r).trans h
theorem suf_self (c : Nat) (l : List Nat) : l <:+ c :: l := List.suffix_cons c l
/-- a sign of a class: how it is told -/
theorem signP_form {l : List Nat} {sp : List (Nat × Nat)} {one : Bool} {r : List Nat} (h : signP l = some (sp, one, r)) :
    (∃ c, l = c :: r ∧ c ≠ 92 ∧ one = true ∧ sp = [(c, c)] ∧ c ∉ [91, 93, 94, 45]) ∨ (∃ c, l = 92 :: c :: r ∧ ((one = true ∧ sp = [(c, c)] ∧ ¬ (c = 100 ∨ c = 119 ∨ c = 115) ∧ c ∈ [92, 91, 93, 94, 45, 47, 46]) ∨ (one = false ∧ (c = 100 ∨ c = 119 ∨ c = 115) ∧ sp = (someP c).getD []))) := by
  unfold signP at h
  split at h
  · cases h
  · rename_i c r0
    split at h
    · rename_i hc
      subst hc
      split at h
      · cases h
      · rename_i e r2
        split at h
        · rename_i he
          cases h
          exact .inr ⟨e, rfl, .inr ⟨rfl, he, rfl⟩⟩
        · rename_i he
          split at h
          · rename_i hm
            cases h
            exact .inr ⟨e, rfl, .inl ⟨rfl, rfl, he, hm⟩⟩
          · cases h
    · rename_i hc
      split at h
      · cases h
      · rename_i hm
        cases h
        exact .inl ⟨c, rfl, hc, rfl, rfl, hm⟩
theorem signP_suf {l : List Nat} {sp : List (Nat × Nat)} {one : Bool} {r : List Nat} (h : signP l = some (sp, one, r)) : r <:+ l := by
  rcases signP_form h with ⟨c, rfl, _⟩ | ⟨c, rfl, _⟩
  · exact suf_self _ _
  · exact suf_cons (suf_self _ _)
theorem itemP_suf {l : List Nat} {sp : List (Nat × Nat)} {r : List Nat} (h : itemP l = some (sp, r)) : r <:+ l := by
  unfold itemP at h
  split at h
  · cases h
  · rename_i sp1 one r1 h1
    have l1 := signP_suf h1
    split at h
    · cases h; exact l1
    · rename_i x r2
      split at h
      · split at h
        · cases h
        · rename_i sp2 one2 r3 h2
          have l2 := signP_suf h2
          split at h
          · cases h; exact l2.trans (suf_of l1)
          · cases h
      · cases h; exact l1
theorem itemsP_suf : ∀ {f : Nat} {l : List Nat} {sp : List (Nat × Nat)} {r : List Nat}, itemsP f l = some (sp, r) → r <:+ l
  | 0, _, _, _, h => by simp [itemsP] at h
  | f + 1, [], _, _, h => by simp [itemsP] at h
  | f + 1, c :: l, _, _, h => by
    unfold itemsP at h
    split at h
    · cases h; exact suf_self _ _
    · split at h
      · cases h
      · rename_i h1
        have l1 := itemP_suf h1
        split at h
        · cases h
        · rename_i h2
          have l2 := itemsP_suf h2
          cases h
          exact l2.trans l1
theorem bodyP_suf {l : List Nat} {sp : List (Nat × Nat)} {r : List Nat} (h : bodyP l = some (sp, r)) : r <:+ l := by
  unfold bodyP at h
  split at h
  · cases h
  · rename_i h1
    have l1 := itemP_suf h1
    split at h
    · cases h
    · rename_i h2
      have l2 := itemsP_suf h2
      cases h
      exact l2.trans l1
theorem classP_suf {l : List Nat} {c : Klass} {r : List Nat} (h : classP l = some (c, r)) : r <:+ l := by
  unfold classP at h
  split at h
  · cases h
  · split at h
    · obtain ⟨q, h1, h2⟩ := Option.map_eq_some_iff.1 h
      have := bodyP_suf (sp := q.1) (r := q.2) h1
      cases h2
      exact suf_cons this
    · obtain ⟨q, h1, h2⟩ := Option.map_eq_some_iff.1 h
      have := bodyP_suf (sp := q.1) (r := q.2) h1
      cases h2
      exact this
theorem escP_suf {l : List Nat} {c : Klass} {r : List Nat} (h : escP l = some (c, r)) : r <:+ l := by
  unfold escP at h
  split at h
  · cases h
  · split at h
    · cases h; exact suf_self _ _
    · split at h
      · cases h; exact suf_self _ _
      · cases h
theorem numP_suf {l : List Nat} {n : Nat} {r : List Nat} (h : numP l = some (n, r)) : r <:+ l := by
  unfold numP at h
  split at h
  · cases h
  · split at h
    · split at h
      · cases h; exact suf_self _ _
      · split at h
        · cases h; exact suf_cons (suf_self _ _)
        · cases h; exact suf_self _ _
    · cases h
theorem timesP_suf {l : List Nat} {lo : Nat} {hi : Option Nat} {r : List Nat} (h : timesP l = some (lo, hi, r)) : r <:+ l := by
  unfold timesP at h
  split at h
  · cases h
  · rename_i h1
    have l1 := numP_suf h1
    split at h
    · cases h
    · split at h
      · cases h; exact suf_of l1
      · split at h
        · split at h
          · cases h
          · split at h
            · cases h; exact suf_of (suf_of l1)
            · split at h
              · cases h
              · rename_i h2
                have l2 := numP_suf h2
                split at h
                · cases h
                · split at h
                  · cases h; exact (suf_of l2).trans (suf_of l1)
                  · cases h
        · cases h
theorem oftenP_suf {g : Bool} {l : List Nat} {lo : Nat} {hi : Option Nat} {r : List Nat} (h : oftenP g l = some (lo, hi, r)) : r <:+ l := by
  unfold oftenP at h
  split at h
  · cases h; exact List.suffix_refl _
  · split at h
    · cases h; exact suf_self _ _
    · split at h
      · cases h; exact suf_self _ _
      · split at h
        · cases h; exact suf_self _ _
        · split at h
          · split at h
            · cases h
            · exact suf_cons (timesP_suf h)
          · cases h; exact List.suffix_refl _
theorem rowG_suf {at_ : List Nat → Option (Den × List Nat)} (ha : ∀ l d r, at_ l = some (d, r) → r <:+ l) : ∀ {f : Nat} {l : List Nat} {ps : List Pce} {r : List Nat}, rowG at_ f l = some (ps, r) → r <:+ l
  | 0, _, _, _, h => by simp [rowG] at h
  | f + 1, [], _, _, h => by simp [rowG] at h; rw [← h.2]; exact List.suffix_refl _
  | f + 1, c :: l, _, _, h => by
    unfold rowG at h
    split at h
    · cases h; exact List.suffix_refl _
    · split at h
      · cases h
      · rename_i h1
        have l1 := ha _ _ _ h1
        split at h
        · cases h
        · rename_i h2
          have l2 := oftenP_suf h2
          split at h
          · cases h
          · rename_i h3
            have l3 := rowG_suf ha h3
            cases h
            exact l3.trans (l2.trans l1)
theorem rowsG_suf {at_ : List Nat → Option (Den × List Nat)} (ha : ∀ l d r, at_ l = some (d, r) → r <:+ l) : ∀ {f : Nat} {l : List Nat} {rs : List (List Pce)} {r : List Nat}, rowsG at_ f l = some (rs, r) → r <:+ l
  | 0, _, _, _, h => by simp [rowsG] at h
  | f + 1, l, _, _, h => by
    unfold rowsG at h
    split at h
    · cases h
    · rename_i h1
      have l1 := rowG_suf ha h1
      split at h
      · cases h; exact List.nil_suffix
      · split at h
        · split at h
          · cases h
          · rename_i h2
            have l2 := rowsG_suf ha h2
            cases h
            exact l2.trans (suf_of l1)
        · cases h; exact l1
theorem atomK_suf : ∀ (k : Nat) (l : List Nat) (d : Den) (r : List Nat), atomK k l = some (d, r) → r <:+ l
  | 0, [], _, _, h => by simp [atomK] at h
  | _ + 1, [], _, _, h => by simp [atomK] at h
  | 0, c :: l, d, r, h => by
    unfold atomK at h
    split at h
    · obtain ⟨q, h1, h2⟩ := Option.map_eq_some_iff.1 h
      have := classP_suf (c := q.1) (r := q.2) h1
      cases h2
      exact suf_cons this
    · split at h
      · cases h
      · split at h
        · obtain ⟨q, h1, h2⟩ := Option.map_eq_some_iff.1 h
          have := escP_suf (c := q.1) (r := q.2) h1
          cases h2
          exact suf_cons this
        · split at h
          · cases h; exact suf_self _ _
          · split at h
            · cases h
            · cases h; exact suf_self _ _
  | k + 1, c :: l, d, r, h => by
    unfold atomK at h
    split at h
    · split at h
      · cases h
      · rename_i h1
        have l1 := rowsG_suf (atomK_suf k) h1
        split at h
        · cases h
        · split at h
          · cases h; exact suf_cons (suf_of l1)
          · cases h
    · exact atomK_suf 0 (c :: l) d r h
theorem rowF_suf {k : Nat} {l : List Nat} {ps : List Pce} {r : List Nat} (h : rowF (atomK k) l = some (ps, r)) : r <:+ l := rowG_suf (atomK_suf k) h
theorem rowsF_suf {k : Nat} {l : List Nat} {rs : List (List Pce)} {r : List Nat} (h : rowsF (atomK k) l = some (rs, r)) : r <:+ l := rowsG_suf (atomK_suf k) h
theorem itemsF_suf {l : List Nat} {sp : List (Nat × Nat)} {r : List Nat} (h : itemsF l = some (sp, r)) : r <:+ l := itemsP_suf h
/-- at a place of a list -/
theorem drop_at {l : List Nat} {k : Nat} (h : k < l.length) : l.drop k = l[k] :: l.drop (k + 1) := List.drop_eq_getElem_cons h
theorem drop_suf {l r : List Nat} {k : Nat} (h : r <:+ l.drop k) (hk : k ≤ l.length) : ∃ n, k ≤ n ∧ n + r.length = l.length ∧ l.drop n = r := by
  obtain ⟨x, hx⟩ := h
  refine ⟨k + x.length, Nat.le_add_right _ _, ?_, ?_⟩
  · have := congrArg List.length hx
    rw [List.length_append, List.length_drop] at this
    omega
  · rw [← List.drop_drop, ← hx]; simp
theorem endV_at {l r : List Nat} {n : Nat} (h : n + r.length = l.length) : endV l.length (some r) = n := by
  unfold endV
  simp only
  omega
theorem drop_head {l r : List Nat} {n c : Nat} (h : l.drop n = c :: r) : ∃ hn : n < l.length, l[n] = c ∧ l.drop (n + 1) = r := by
  have hn : n < l.length := by
    rcases Nat.lt_or_ge n l.length with hn | hn
    · exact hn
    · rw [List.drop_eq_nil_of_le hn] at h; cases h
  rw [drop_at hn] at h
  obtain ⟨h1, h2⟩ := List.cons.inj h
  exact ⟨hn, h1, h2⟩
end Go.Proofs.YtfhgnnlhacjnkaaDoor.PT
