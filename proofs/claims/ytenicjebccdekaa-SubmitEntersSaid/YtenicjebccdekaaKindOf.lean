/-
  THE KIND OF A NODE: kinds.attr, kinds.types, kinds.Of; ref11.Type, ref11.Of: the walks.
-/
import Derived.Test.YtenicjebccdekaaKinds
import Derived.Test.YtenicjebccdekaaSteps
import Derived.Deep.WholeRow
namespace Go.Proofs.Ytenicjebccdekaa
set_option linter.unusedVariables false
set_option linter.unusedSimpArgs false
open Go.RowKit PT

/-- the types of input, in the order of kinds -/
def tyL : List ByteArray := [⟨#[104, 105, 100, 100, 101, 110]⟩, ⟨#[116, 101, 120, 116]⟩, ⟨#[115, 101, 97, 114, 99, 104]⟩, ⟨#[116, 101, 108]⟩, ⟨#[117, 114, 108]⟩, ⟨#[101, 109, 97, 105, 108]⟩, ⟨#[112, 97, 115, 115, 119, 111, 114, 100]⟩, ⟨#[100, 97, 116, 101]⟩, ⟨#[109, 111, 110, 116, 104]⟩, ⟨#[119, 101, 101, 107]⟩, ⟨#[116, 105, 109, 101]⟩, ⟨#[100, 97, 116, 101, 116, 105, 109, 101, 45, 108, 111, 99, 97, 108]⟩, ⟨#[110, 117, 109, 98, 101, 114]⟩, ⟨#[114, 97, 110, 103, 101]⟩, ⟨#[99, 111, 108, 111, 114]⟩, ⟨#[99, 104, 101, 99, 107, 98, 111, 120]⟩, ⟨#[114, 97, 100, 105, 111]⟩, ⟨#[102, 105, 108, 101]⟩, ⟨#[115, 117, 98, 109, 105, 116]⟩, ⟨#[105, 109, 97, 103, 101]⟩, ⟨#[114, 101, 115, 101, 116]⟩, ⟨#[98, 117, 116, 116, 111, 110]⟩]
/-- the kind of an input of a type -/
def tyK (ty : ByteArray) : Int := match tyL.findIdx? (fun s => decide (s = ty)) with
  | none => 2
  | some i => (i : Int) + 1
theorem tyK_hit {ty : ByteArray} {k : Nat} (hk : k < 22) (hno : ∀ j, j < k → tyL[j]? ≠ some ty) (h : tyL[k]? = some ty) : tyK ty = (k : Int) + 1 := by
  have hl : tyL.length = 22 := rfl
  have hk' : k < tyL.length := by omega
  unfold tyK
  rw [List.findIdx?_eq_some_iff_getElem.2 ⟨hk', by
    rw [List.getElem?_eq_getElem hk'] at h
    exact decide_eq_true (Option.some.inj h), fun j hj => by
    have := hno j hj
    rw [List.getElem?_eq_getElem (by omega)] at this
    simpa using fun e => this (by rw [e])⟩]
theorem tyK_none {ty : ByteArray} (hno : ∀ j, j < 22 → tyL[j]? ≠ some ty) : tyK ty = 2 := by
  unfold tyK
  rw [List.findIdx?_eq_none_iff.2 (fun x hx => by
    obtain ⟨j, hj, rfl⟩ := List.mem_iff_getElem.1 hx
    have hl : tyL.length = 22 := rfl
    have := hno j (by omega)
    rw [List.getElem?_eq_getElem hj] at this
    simpa using fun e => this (by rw [e]))]
theorem tyK_range (ty : ByteArray) : 1 ≤ tyK ty ∧ tyK ty ≤ 22 := by
  unfold tyK
  split
  · omega
  · rename_i i h
    obtain ⟨hi, _⟩ := List.findIdx?_eq_some_iff_getElem.1 h
    have hl : tyL.length = 22 := rfl
    omega
/-- an attribute's value in small letters; none: the empty one -/
def tyOf (x : Nd) : ByteArray := ⟨(low ((atO x.ats ⟨#[116, 121, 112, 101]⟩).getD ⟨#[]⟩).data.toList).toArray⟩
def btK (ty : ByteArray) : Int := if ty = ⟨#[114, 101, 115, 101, 116]⟩ then 26 else if ty = ⟨#[98, 117, 116, 116, 111, 110]⟩ then 27 else 25
def otL : List ByteArray := [⟨#[111, 117, 116, 112, 117, 116]⟩, ⟨#[102, 105, 101, 108, 100, 115, 101, 116]⟩, ⟨#[102, 111, 114, 109]⟩, ⟨#[108, 97, 98, 101, 108]⟩, ⟨#[111, 112, 116, 105, 111, 110]⟩, ⟨#[111, 112, 116, 103, 114, 111, 117, 112]⟩, ⟨#[108, 101, 103, 101, 110, 100]⟩, ⟨#[100, 97, 116, 97, 108, 105, 115, 116]⟩]
def otK (nm : ByteArray) : Int := match otL.findIdx? (fun s => decide (s = nm)) with
  | none => 0
  | some i => 28 + (i : Int)
theorem otK_hit {nm : ByteArray} {k : Nat} (hk : k < 8) (hno : ∀ j, j < k → otL[j]? ≠ some nm) (h : otL[k]? = some nm) : otK nm = 28 + (k : Int) := by
  have hl : otL.length = 8 := rfl
  have hk' : k < otL.length := by omega
  unfold otK
  rw [List.findIdx?_eq_some_iff_getElem.2 ⟨hk', by
    rw [List.getElem?_eq_getElem hk'] at h
    exact decide_eq_true (Option.some.inj h), fun j hj => by
    have := hno j hj
    rw [List.getElem?_eq_getElem (by omega)] at this
    simpa using fun e => this (by rw [e])⟩]
theorem otK_none {nm : ByteArray} (hno : ∀ j, j < 8 → otL[j]? ≠ some nm) : otK nm = 0 := by
  unfold otK
  rw [List.findIdx?_eq_none_iff.2 (fun x hx => by
    obtain ⟨j, hj, rfl⟩ := List.mem_iff_getElem.1 hx
    have hl : otL.length = 8 := rfl
    have := hno j (by omega)
    rw [List.getElem?_eq_getElem hj] at this
    simpa using fun e => this (by rw [e]))]
theorem otK_range (nm : ByteArray) : 0 ≤ otK nm ∧ otK nm ≤ 35 := by
  unfold otK
  split
  · omega
  · rename_i i h
    obtain ⟨hi, _⟩ := List.findIdx?_eq_some_iff_getElem.1 h
    have hl : otL.length = 8 := rfl
    omega
/-- the kind of a node -/
def kindOf (x : Nd) : Int :=
  if x.nm = ⟨#[105, 110, 112, 117, 116]⟩ then tyK (tyOf x) else if x.nm = ⟨#[98, 117, 116, 116, 111, 110]⟩ then btK (tyOf x) else if x.nm = ⟨#[115, 101, 108, 101, 99, 116]⟩ then 23 else if x.nm = ⟨#[116, 101, 120, 116, 97, 114, 101, 97]⟩ then 24 else otK x.nm
theorem kindOf_range (x : Nd) : 0 ≤ kindOf x ∧ kindOf x ≤ 35 := by
  have := tyK_range (tyOf x)
  have := otK_range x.nm
  have hb : 25 ≤ btK (tyOf x) ∧ btK (tyOf x) ≤ 27 := by
    unfold btK; split
    · omega
    · split <;> omega
  unfold kindOf
  repeat' split
  all_goals omega
theorem lq_yes {l : List UInt8} {t : ByteArray} (h : (⟨l.toArray⟩ : ByteArray) = t) : (l == t.toList) = true := by
  rw [← h, ByteArray.toList_eq]; exact beq_self_eq_true _
theorem lq_no {l : List UInt8} {t : ByteArray} (h : ¬ (⟨l.toArray⟩ : ByteArray) = t) : (l == t.toList) = false := by
  rw [beq_eq_false_iff_ne, ByteArray.toList_eq]
  intro e
  exact h (ByteArray.ext (by rw [e]))
theorem ql_yes {l : List UInt8} {t : ByteArray} (h : (⟨l.toArray⟩ : ByteArray) = t) : (t.toList == l) = true := by
  rw [← h, ByteArray.toList_eq]; exact beq_self_eq_true _
theorem ql_no {l : List UInt8} {t : ByteArray} (h : ¬ (⟨l.toArray⟩ : ByteArray) = t) : (t.toList == l) = false := by
  rw [beq_eq_false_iff_ne, ByteArray.toList_eq]
  intro e
  exact h (ByteArray.ext (by rw [← e]))
set_option maxHeartbeats 1000000 in
set_option maxRecDepth 100000 in
theorem kindsAttr_any (x : Nd) (va vk : Value) (s : ByteArray) (hl : x.ats.length ≤ 1000000000000000) (w : World) (hU : Atts x.ats va w) :
    Calls Try.prog 109 #[NdV x va vk, .string s] w fun e w' => e = .returned (.string ((atO x.ats s).getD ⟨#[]⟩)) ∧ Below w.heap.size w w' := by
  unfold NdV
  have hba := (Below.refl w.heap.size w).alloc (Nat.le_refl _) (.cells #[.string x.nm, .string x.tx, va, .int .i64 x.pa, vk] 35)
  have hb0 := hba.alloc (by simp) (.cells #[.string s] 9)
  have hsa : (w.alloc (.cells #[.string x.nm, .string x.tx, va, .int .i64 x.pa, vk] 35)).heap.size = w.heap.size + 1 := by simp
  have hs0 : ((w.alloc (.cells #[.string x.nm, .string x.tx, va, .int .i64 x.pa, vk] 35)).alloc (.cells #[.string s] 9)).heap.size = w.heap.size + 1 + 1 := by simp
  have hn0 := Go.heap_alloc_new (w.alloc (.cells #[.string x.nm, .string x.tx, va, .int .i64 x.pa, vk] 35)) (.cells #[.string s] 9)
  have hn1 := Go.heap_alloc_new w (.cells #[.string x.nm, .string x.tx, va, .int .i64 x.pa, vk] 35)
  rw [hsa] at hn0
  have hU0 := hU.kept hb0
  have hc0 : ((w.alloc (.cells #[.string x.nm, .string x.tx, va, .int .i64 x.pa, vk] 35)).alloc (.cells #[.string s] 9)).cell? ⟨w.heap.size + 1, 0, none⟩ = some (.string s) := by simp only [World.cell?, hn0]; rfl
  have hm0 : ((w.alloc (.cells #[.string x.nm, .string x.tx, va, .int .i64 x.pa, vk] 35)).alloc (.cells #[.string s] 9)).cell? ⟨w.heap.size, 2, none⟩ = some va := by
    simp only [World.cell?, Below.heap_alloc (w.alloc (.cells #[.string x.nm, .string x.tx, va, .int .i64 x.pa, vk] 35)) (.cells #[.string s] 9) w.heap.size (by simp), hn1]; rfl
  obtain ⟨a, cap, rfl⟩ := hU.len
  have hp : ∀ W, Below ((w.alloc (.cells #[.string x.nm, .string x.tx, .slice a x.ats.length cap, .int .i64 x.pa, vk] 35)).alloc (.cells #[.string s] 9)).heap.size ((w.alloc (.cells #[.string x.nm, .string x.tx, .slice a x.ats.length cap, .int .i64 x.pa, vk] 35)).alloc (.cells #[.string s] 9)) W → ∀ y ∈ x.ats, Calls Try.prog 121 (#[atV y] ++ #[.pointer (some ⟨w.heap.size + 1, 0, none⟩)]) W fun e w' => e = .returned (.bool (isN s y)) ∧ Below W.heap.size W w' := by
    intro W hW y hy
    have hWs := hW.size
    exact attrFn_any y s (w.heap.size + 1) W (by omega) (cellK hW (by omega) hc0)
  have HP := Lib.hid hp
  have HM := Lib.hid hm0
  have HS0 := Lib.hid hs0
  clear hp hsa hn0 hc0 hs0 hm0
  go_enter Try.func109, Try.ntmps109
  go_wp2_with fail
  refine (indexFuncA_any x.ats (isN s) _ 121 #[.pointer (some ⟨w.heap.size + 1, 0, none⟩)] (enters_of Try.func121 (by kernel_rfl) rfl) hl _ hU0 HP.out).mono ?_
  rintro e w2 ⟨rfl, hb2⟩
  have hm2 := cellK hb2 (by have := HS0.out; omega) HM.out
  have hU2 := hU0.kept hb2
  have hbb := bs hb0 hb2
  clear hba hb0 hb2 hU0 hn1 HM HP HS0
  rcases fi_cases x.ats (isN s) with ⟨h, _⟩ | ⟨k, hk, h, _⟩
  · have hR := Lib.hid (atO_none h)
    rw [h]
    clear h
    go_wp2_with fail
    go_ret
    exact ⟨by rw [hR.out]; rfl, hbb⟩
  · have hR := Lib.hid (atO_some hk h)
    rw [h]
    obtain ⟨b, o, cap', hv, _, hb, hc0, hc1⟩ := hU2.at hk
    cases hv
    clear h
    generalize x.ats[k] = y at *
    have hk0 : (0 : Int) ≤ (k : Int) := by omega
    have hk1 : (k : Int) < (x.ats.length : Int) := by omega
    have hk2 : decide ((k : Int) < 0) = false := by simp
    go_wp2_with fail
    go_ret
    exact ⟨by rw [hR.out]; rfl, hbb⟩
theorem kinds22 (k : Int) (h0 : 1 ≤ k) (h1 : k ≤ 22) : k = 1 ∨ k = 2 ∨ k = 3 ∨ k = 4 ∨ k = 5 ∨ k = 6 ∨ k = 7 ∨ k = 8 ∨ k = 9 ∨ k = 10 ∨ k = 11 ∨ k = 12 ∨ k = 13 ∨ k = 14 ∨ k = 15 ∨ k = 16 ∨ k = 17 ∨ k = 18 ∨ k = 19 ∨ k = 20 ∨ k = 21 ∨ k = 22 := by omega
set_option maxHeartbeats 4000000 in
set_option maxRecDepth 100000 in
theorem refType11_any (k : Int) (h0 : 1 ≤ k) (h1 : k ≤ 22) (w : World) : Calls Try.prog 75 #[.int .i64 k] w fun e w' => (∃ s, e = .returned (.string s) ∧ tyL[(k - 1).toNat]? = some s) ∧ w = w' := by
  rcases kinds22 k h0 h1 with rfl | rfl | rfl | rfl | rfl | rfl | rfl | rfl | rfl | rfl | rfl | rfl | rfl | rfl | rfl | rfl | rfl | rfl | rfl | rfl | rfl | rfl
  all_goals
    go_enter Try.func75, Try.ntmps75
    go_wp2
    go_ret
    exact ⟨⟨_, rfl, rfl⟩, rfl⟩
def tyCells : Array Value := (tyL.map Value.string).toArray
def noCells : Array Value := (List.replicate 22 (Value.string ⟨#[]⟩)).toArray
set_option maxHeartbeats 2000000 in
set_option maxRecDepth 100000 in
theorem types_any (w : World) : Calls Try.prog 110 #[] w fun e w' => e = .returned (.agg tyCells) ∧ Below w.heap.size w w' := by
  have hb0 := (Below.refl w.heap.size w).alloc (Nat.le_refl _) (.cells noCells 88)
  have hn := Go.heap_alloc_new w (.cells noCells 88)
  go_enter Try.func110, Try.ntmps110
  go_upto_region 1 with fail
  refine wp_region_lit ?_
  refine wpList_plain rfl fun K hK => ?_
  go_simp
  refine hK _ _ ?_
  refine wpList_store_at rfl 88 _ _ rfl w.heap.size 0 rfl (.agg tyCells) rfl noCells tyCells 88 hn (by kernel_rfl) (by decide) (by kernel_rfl) (by rfl) (Nat.le_refl _) ?_
  intro w2 hw2 hb2
  have hlv := run_loadVar_row (P := Try.prog) w2 w.heap.size 88 88 tyCells (0, 0) _ hw2 Try.underlying88 rfl (by kernel_rfl)
  go_wp2_with fail
  refine bodyPost_ret (v := .agg tyCells) ?_ rfl ⟨rfl, hb0.trans hb2⟩
  simp [results, Try.results110, asAddr, hlv, Act.put]
theorem tyIdx : ∀ k, k < 22 → ∀ w, (Instr.index 88 (.agg tyCells) (.int .i64 (k : Nat))).run Try.prog w = .ok (.string (tyL.getD k ⟨#[]⟩)) w
  | 0, _, _ => by kernel_rfl
  | 1, _, _ => by kernel_rfl
  | 2, _, _ => by kernel_rfl
  | 3, _, _ => by kernel_rfl
  | 4, _, _ => by kernel_rfl
  | 5, _, _ => by kernel_rfl
  | 6, _, _ => by kernel_rfl
  | 7, _, _ => by kernel_rfl
  | 8, _, _ => by kernel_rfl
  | 9, _, _ => by kernel_rfl
  | 10, _, _ => by kernel_rfl
  | 11, _, _ => by kernel_rfl
  | 12, _, _ => by kernel_rfl
  | 13, _, _ => by kernel_rfl
  | 14, _, _ => by kernel_rfl
  | 15, _, _ => by kernel_rfl
  | 16, _, _ => by kernel_rfl
  | 17, _, _ => by kernel_rfl
  | 18, _, _ => by kernel_rfl
  | 19, _, _ => by kernel_rfl
  | 20, _, _ => by kernel_rfl
  | 21, _, _ => by kernel_rfl
  | n + 22, h, _ => absurd h (by omega)
theorem otIdx : ∀ k, k < 8 → ∀ w, (Instr.index 90 (.agg #[.string ⟨#[111, 117, 116, 112, 117, 116]⟩, .string ⟨#[102, 105, 101, 108, 100, 115, 101, 116]⟩, .string ⟨#[102, 111, 114, 109]⟩, .string ⟨#[108, 97, 98, 101, 108]⟩, .string ⟨#[111, 112, 116, 105, 111, 110]⟩, .string ⟨#[111, 112, 116, 103, 114, 111, 117, 112]⟩, .string ⟨#[108, 101, 103, 101, 110, 100]⟩, .string ⟨#[100, 97, 116, 97, 108, 105, 115, 116]⟩]) (.int .i64 (k : Nat))).run Try.prog w = .ok (.string (otL.getD k ⟨#[]⟩)) w
  | 0, _, _ => by kernel_rfl
  | 1, _, _ => by kernel_rfl
  | 2, _, _ => by kernel_rfl
  | 3, _, _ => by kernel_rfl
  | 4, _, _ => by kernel_rfl
  | 5, _, _ => by kernel_rfl
  | 6, _, _ => by kernel_rfl
  | 7, _, _ => by kernel_rfl
  | n + 8, h, _ => absurd h (by omega)
theorem getD_some {l : List ByteArray} {k : Nat} (hk : k < l.length) : l[k]? = some (l.getD k ⟨#[]⟩) := by
  rw [List.getElem?_eq_getElem hk, List.getD_eq_getElem?_getD, List.getElem?_eq_getElem hk]; rfl
end Go.Proofs.Ytenicjebccdekaa
