import Derived.Test.YtafbghlldlconaaGreatDoorPart2
import Derived.Test.YtafbghlldlconaaGreatDoorPart3
import Derived.Deep.WholeRow
import Derived.Test.YtafbghlldlconaaGreatDoorPart5
/-
  THE KIND OF A NODE: kinds.attr, kinds.types, kinds.Of; ref11.Type, ref11.Of: the walks.
-/
namespace Go.Proofs.YtafbghlldlconaaGreatDoor
set_option linter.unusedVariables false
set_option linter.unusedSimpArgs false
open Go.RowKit PT

/-- the types of input, in the order of kinds -/
def tyL : List ByteArray := [⟨#[104, 105, 100, 100, 101, 110]⟩, ⟨#[116, 101, 120, 116]⟩, ⟨#[115, 101, 97, 114, 99, 104]⟩, ⟨#[116, 101, 108]⟩, ⟨#[117, 114, 108]⟩, ⟨#[101, 109, 97, 105, 108]⟩, ⟨#[112, 97, 115, 115, 119, 111, 114, 100]⟩, ⟨#[100, 97, 116, 101]⟩, ⟨#[109, 111, 110, 116, 104]⟩, ⟨#[119, 101, 101, 107]⟩, ⟨#[116, 105, 109, 101]⟩, ⟨#[100, 97, 116, 101, 116, 105, 109, 101, 45, 108, 111, 99, 97, 108]⟩, ⟨#[110, 117, 109, 98, 101, 114]⟩, ⟨#[114, 97, 110, 103, 101]⟩, ⟨#[99, 111, 108, 111, 114]⟩, ⟨#[99, 104, 101, 99, 107, 98, 111, 120]⟩, ⟨#[114, 97, 100, 105, 111]⟩, ⟨#[102, 105, 108, 101]⟩, ⟨#[115, 117, 98, 109, 105, 116]⟩, ⟨#[105, 109, 97, 103, 101]⟩, ⟨#[114, 101, 115, 101, 116]⟩, ⟨#[98, 117, 116, 116, 111, 110]⟩]
/-- the kind of an input of a type -/
def tyK (ty : ByteArray) : Int := match tyL.findIdx? (fun s => decide (s = ty)) with
  | none => 2
  | some i => (i : Int) + 1
theorem tyK_hit {ty : ByteArray} {k : Nat} (hk : k < 22) (hno : ∀ j, j < k → tyL[j]? ≠ some ty) (h : tyL[k]? = some ty) : tyK ty = (k : Int) + 1 := by
  have hl : tyL.length = 22 := rfl
  have hk' : k < tyL.length := by omega
  unfold tyK
  rw [List.findIdx?_eq_some_iff_getElem.2 ⟨hk', by
    rw [List.getElem?_eq_getElem hk'] at h
    exact decide_eq_true (Option.some.inj h), fun j hj => by
    have := hno j hj
    rw [List.getElem?_eq_getElem (by omega)] at this
    simpa using fun e => this (by rw [e])⟩]
theorem tyK_none {ty : ByteArray} (hno : ∀ j, j < 22 → tyL[j]? ≠ some ty) : tyK ty = 2 := by
  unfold tyK
  rw [List.findIdx?_eq_none_iff.2 (fun x hx => by
    obtain ⟨j, hj, rfl⟩ := List.mem_iff_getElem.1 hx
    have hl : tyL.length = 22 := rfl
    have := hno j (by omega)
    rw [List.getElem?_eq_getElem hj] at this
    simpa using fun e => this (by rw [e]))]
theorem tyK_range (ty : ByteArray) : 1 ≤ tyK ty ∧ tyK ty ≤ 22 := by
  unfold tyK
  split
  · omega
  · rename_i i h
    obtain ⟨hi, _⟩ := List.findIdx?_eq_some_iff_getElem.1 h
    have hl : tyL.length = 22 := rfl
    omega
/-- an attribute's value in small letters; none: the empty one -/
def tyOf (x : Nd) : ByteArray := ⟨(low ((atO x.ats ⟨#[116, 121, 112, 101]⟩).getD ⟨#[]⟩).data.toList).toArray⟩
def btK (ty : ByteArray) : Int := if ty = ⟨#[114, 101, 115, 101, 116]⟩ then 26 else if ty = ⟨#[98, 117, 116, 116, 111, 110]⟩ then 27 else 25
def otL : List ByteArray := [⟨#[111, 117, 116, 112, 117, 116]⟩, ⟨#[102, 105, 101, 108, 100, 115, 101, 116]⟩, ⟨#[102, 111, 114, 109]⟩, ⟨#[108, 97, 98, 101, 108]⟩, ⟨#[111, 112, 116, 105, 111, 110]⟩, ⟨#[111, 112, 116, 103, 114, 111, 117, 112]⟩, ⟨#[108, 101, 103, 101, 110, 100]⟩, ⟨#[100, 97, 116, 97, 108, 105, 115, 116]⟩]
def otK (nm : ByteArray) : Int := match otL.findIdx? (fun s => decide (s = nm)) with
  | none => 0
  | some i => 28 + (i : Int)
theorem otK_hit {nm : ByteArray} {k : Nat} (hk : k < 8) (hno : ∀ j, j < k → otL[j]? ≠ some nm) (h : otL[k]? = some nm) : otK nm = 28 + (k : Int) := by
  have hl : otL.length = 8 := rfl
  have hk' : k < otL.length := by omega
  unfold otK
  rw [List.findIdx?_eq_some_iff_getElem.2 ⟨hk', by
    rw [List.getElem?_eq_getElem hk'] at h
    exact decide_eq_true (Option.some.inj h), fun j hj => by
    have := hno j hj
    rw [List.getElem?_eq_getElem (by omega)] at this
    simpa using fun e => this (by rw [e])⟩]
theorem otK_none {nm : ByteArray} (hno : ∀ j, j < 8 → otL[j]? ≠ some nm) : otK nm = 0 := by
  unfold otK
  rw [List.findIdx?_eq_none_iff.2 (fun x hx => by
    obtain ⟨j, hj, rfl⟩ := List.mem_iff_getElem.1 hx
    have hl : otL.length = 8 := rfl
    have := hno j (by omega)
    rw [List.getElem?_eq_getElem hj] at this
    simpa using fun e => this (by rw [e]))]
theorem otK_range (nm : ByteArray) : 0 ≤ otK nm ∧ otK nm ≤ 35 := by
  unfold otK
  split
  · omega
  · rename_i i h
    obtain ⟨hi, _⟩ := List.findIdx?_eq_some_iff_getElem.1 h
    have hl : otL.length = 8 := rfl
    omega
/-- the kind of a node -/
def kindOf (x : Nd) : Int :=
  if x.nm = ⟨#[105, 110, 112, 117, 116]⟩ then tyK (tyOf x) else if x.nm = ⟨#[98, 117, 116, 116, 111, 110]⟩ then btK (tyOf x) else if x.nm = ⟨#[115, 101, 108, 101, 99, 116]⟩ then 23 else if x.nm = ⟨#[116, 101, 120, 116, 97, 114, 101, 97]⟩ then 24 else otK x.nm
theorem kindOf_range (x : Nd) : 0 ≤ kindOf x ∧ kindOf x ≤ 35 := by
  have := tyK_range (tyOf x)
  have := otK_range x.nm
  have hb : 25 ≤ btK (tyOf x) ∧ btK (tyOf x) ≤ 27 := by
    unfold btK; split
    · omega
    · split <;> omega
  unfold kindOf
  repeat' split
  all_goals omega
theorem lq_yes {l : List UInt8} {t : ByteArray} (h : (⟨l.toArray⟩ : ByteArray) = t) : (l == t.toList) = true := by
  rw [← h, ByteArray.toList_eq]; exact beq_self_eq_true _
theorem lq_no {l : List UInt8} {t : ByteArray} (h : ¬ (⟨l.toArray⟩ : ByteArray) = t) : (l == t.toList) = false := by
  rw [beq_eq_false_iff_ne, ByteArray.toList_eq]
  intro e
  exact h (ByteArray.ext (by rw [e]))
theorem ql_yes {l : List UInt8} {t : ByteArray} (h : (⟨l.toArray⟩ : ByteArray) = t) : (t.toList == l) = true := by
  rw [← h, ByteArray.toList_eq]; exact beq_self_eq_true _
theorem ql_no {l : List UInt8} {t : ByteArray} (h : ¬ (⟨l.toArray⟩ : ByteArray) = t) : (t.toList == l) = false := by
  rw [beq_eq_false_iff_ne, ByteArray.toList_eq]
  intro e
  exact h (ByteArray.ext (by rw [← e]))
set_option maxHeartbeats 1000000 in
set_option maxRecDepth 100000 in
theorem kindsAttr_any (x : Nd) (va vk : Value) (s : ByteArray) (hl : x.ats.length ≤ 1000000000000000) (w : World) (hU : Atts x.ats va w) :
    Calls Tryz.prog 55 #[NdV x va vk, .string s] w fun e w' => e = .returned (.string ((atO x.ats s).getD ⟨#[]⟩)) ∧ Below w.heap.size w w' := by
  unfold NdV
  have hba := (Below.refl w.heap.size w).alloc (Nat.le_refl _) (.cells #[.string x.nm, .string x.tx, va, .int .i64 x.pa, vk] 54)
  have hb0 := hba.alloc (by simp) (.cells #[.string s] 9)
  have hsa : (w.alloc (.cells #[.string x.nm, .string x.tx, va, .int .i64 x.pa, vk] 54)).heap.size = w.heap.size + 1 := by simp
  have hs0 : ((w.alloc (.cells #[.string x.nm, .string x.tx, va, .int .i64 x.pa, vk] 54)).alloc (.cells #[.string s] 9)).heap.size = w.heap.size + 1 + 1 := by simp
  have hn0 := Go.heap_alloc_new (w.alloc (.cells #[.string x.nm, .string x.tx, va, .int .i64 x.pa, vk] 54)) (.cells #[.string s] 9)
  have hn1 := Go.heap_alloc_new w (.cells #[.string x.nm, .string x.tx, va, .int .i64 x.pa, vk] 54)
  rw [hsa] at hn0
  have hU0 := hU.kept hb0
  have hc0 : ((w.alloc (.cells #[.string x.nm, .string x.tx, va, .int .i64 x.pa, vk] 54)).alloc (.cells #[.string s] 9)).cell? ⟨w.heap.size + 1, 0, none⟩ = some (.string s) := by simp only [World.cell?, hn0]; rfl
  have hm0 : ((w.alloc (.cells #[.string x.nm, .string x.tx, va, .int .i64 x.pa, vk] 54)).alloc (.cells #[.string s] 9)).cell? ⟨w.heap.size, 2, none⟩ = some va := by
    simp only [World.cell?, Below.heap_alloc (w.alloc (.cells #[.string x.nm, .string x.tx, va, .int .i64 x.pa, vk] 54)) (.cells #[.string s] 9) w.heap.size (by simp), hn1]; rfl
  obtain ⟨a, cap, rfl⟩ := hU.len
  have hp : ∀ W, Below ((w.alloc (.cells #[.string x.nm, .string x.tx, .slice a x.ats.length cap, .int .i64 x.pa, vk] 54)).alloc (.cells #[.string s] 9)).heap.size ((w.alloc (.cells #[.string x.nm, .string x.tx, .slice a x.ats.length cap, .int .i64 x.pa, vk] 54)).alloc (.cells #[.string s] 9)) W → ∀ y ∈ x.ats, Calls Tryz.prog 93 (#[atV y] ++ #[.pointer (some ⟨w.heap.size + 1, 0, none⟩)]) W fun e w' => e = .returned (.bool (isN s y)) ∧ Below W.heap.size W w' := by
    intro W hW y hy
    have hWs := hW.size
    exact attrFn_any y s (w.heap.size + 1) W (by omega) (cellK hW (by omega) hc0)
  have HP := Lib.hid hp
  have HM := Lib.hid hm0
  have HS0 := Lib.hid hs0
  clear hp hsa hn0 hc0 hs0 hm0
  go_enter Tryz.func55, Tryz.ntmps55
  go_wp2_with fail
  refine (indexFuncA_any x.ats (isN s) _ 93 #[.pointer (some ⟨w.heap.size + 1, 0, none⟩)] (enters_of Tryz.func93 (by kernel_rfl) rfl) hl _ hU0 HP.out).mono ?_
  rintro e w2 ⟨rfl, hb2⟩
  have hm2 := cellK hb2 (by have := HS0.out; omega) HM.out
  have hU2 := hU0.kept hb2
  have hbb := bs hb0 hb2
  clear hba hb0 hb2 hU0 hn1 HM HP HS0
  rcases fi_cases x.ats (isN s) with ⟨h, _⟩ | ⟨k, hk, h, _⟩
  · have hR := Lib.hid (atO_none h)
    rw [h]
    clear h
    go_wp2_with fail
    go_ret
    exact ⟨by rw [hR.out]; rfl, hbb⟩
  · have hR := Lib.hid (atO_some hk h)
    rw [h]
    obtain ⟨b, o, cap', hv, _, hb, hc0, hc1⟩ := hU2.at hk
    cases hv
    clear h
    generalize x.ats[k] = y at *
    have hk0 : (0 : Int) ≤ (k : Int) := by omega
    have hk1 : (k : Int) < (x.ats.length : Int) := by omega
    have hk2 : decide ((k : Int) < 0) = false := by simp
    go_wp2_with fail
    go_ret
    exact ⟨by rw [hR.out]; rfl, hbb⟩
theorem kinds22 (k : Int) (h0 : 1 ≤ k) (h1 : k ≤ 22) : k = 1 ∨ k = 2 ∨ k = 3 ∨ k = 4 ∨ k = 5 ∨ k = 6 ∨ k = 7 ∨ k = 8 ∨ k = 9 ∨ k = 10 ∨ k = 11 ∨ k = 12 ∨ k = 13 ∨ k = 14 ∨ k = 15 ∨ k = 16 ∨ k = 17 ∨ k = 18 ∨ k = 19 ∨ k = 20 ∨ k = 21 ∨ k = 22 := by omega
set_option maxHeartbeats 4000000 in
set_option maxRecDepth 100000 in
theorem refType11_any (k : Int) (h0 : 1 ≤ k) (h1 : k ≤ 22) (w : World) : Calls Tryz.prog 111 #[.int .i64 k] w fun e w' => (∃ s, e = .returned (.string s) ∧ tyL[(k - 1).toNat]? = some s) ∧ w = w' := by
  rcases kinds22 k h0 h1 with rfl | rfl | rfl | rfl | rfl | rfl | rfl | rfl | rfl | rfl | rfl | rfl | rfl | rfl | rfl | rfl | rfl | rfl | rfl | rfl | rfl | rfl
  all_goals
    go_enter Tryz.func111, Tryz.ntmps111
    go_wp2
    go_ret
    exact ⟨⟨_, rfl, rfl⟩, rfl⟩
def tyCells : Array Value := (tyL.map Value.string).toArray
def noCells : Array Value := (List.replicate 22 (Value.string ⟨#[]⟩)).toArray
set_option maxHeartbeats 2000000 in
set_option maxRecDepth 100000 in
theorem types_any (w : World) : Calls Tryz.prog 56 #[] w fun e w' => e = .returned (.agg tyCells) ∧ Below w.heap.size w w' := by
  have hb0 := (Below.refl w.heap.size w).alloc (Nat.le_refl _) (.cells noCells 86)
  have hn := Go.heap_alloc_new w (.cells noCells 86)
  go_enter Tryz.func56, Tryz.ntmps56
  go_upto_region 1 with fail
  refine wp_region_lit ?_
  refine wpList_plain rfl fun K hK => ?_
  go_simp
  refine hK _ _ ?_
  refine wpList_store_at rfl 86 _ _ rfl w.heap.size 0 rfl (.agg tyCells) rfl noCells tyCells 86 hn (by kernel_rfl) (by decide) (by kernel_rfl) (by rfl) (Nat.le_refl _) ?_
  intro w2 hw2 hb2
  have hlv := run_loadVar_row (P := Tryz.prog) w2 w.heap.size 86 86 tyCells (0, 0) _ hw2 Tryz.underlying86 rfl (by kernel_rfl)
  go_wp2_with fail
  refine bodyPost_ret (v := .agg tyCells) ?_ rfl ⟨rfl, hb0.trans hb2⟩
  simp [results, Tryz.results56, asAddr, hlv, Act.put]
theorem tyIdx : ∀ k, k < 22 → ∀ w, (Instr.index 86 (.agg tyCells) (.int .i64 (k : Nat))).run Tryz.prog w = .ok (.string (tyL.getD k ⟨#[]⟩)) w
  | 0, _, _ => by kernel_rfl
  | 1, _, _ => by kernel_rfl
  | 2, _, _ => by kernel_rfl
  | 3, _, _ => by kernel_rfl
  | 4, _, _ => by kernel_rfl
  | 5, _, _ => by kernel_rfl
  | 6, _, _ => by kernel_rfl
  | 7, _, _ => by kernel_rfl
  | 8, _, _ => by kernel_rfl
  | 9, _, _ => by kernel_rfl
  | 10, _, _ => by kernel_rfl
  | 11, _, _ => by kernel_rfl
  | 12, _, _ => by kernel_rfl
  | 13, _, _ => by kernel_rfl
  | 14, _, _ => by kernel_rfl
  | 15, _, _ => by kernel_rfl
  | 16, _, _ => by kernel_rfl
  | 17, _, _ => by kernel_rfl
  | 18, _, _ => by kernel_rfl
  | 19, _, _ => by kernel_rfl
  | 20, _, _ => by kernel_rfl
  | 21, _, _ => by kernel_rfl
  | n + 22, h, _ => absurd h (by omega)
theorem otIdx : ∀ k, k < 8 → ∀ w, (Instr.index 88 (.agg #[.string ⟨#[111, 117, 116, 112, 117, 116]⟩, .string ⟨#[102, 105, 101, 108, 100, 115, 101, 116]⟩, .string ⟨#[102, 111, 114, 109]⟩, .string ⟨#[108, 97, 98, 101, 108]⟩, .string ⟨#[111, 112, 116, 105, 111, 110]⟩, .string ⟨#[111, 112, 116, 103, 114, 111, 117, 112]⟩, .string ⟨#[108, 101, 103, 101, 110, 100]⟩, .string ⟨#[100, 97, 116, 97, 108, 105, 115, 116]⟩]) (.int .i64 (k : Nat))).run Tryz.prog w = .ok (.string (otL.getD k ⟨#[]⟩)) w
  | 0, _, _ => by kernel_rfl
  | 1, _, _ => by kernel_rfl
  | 2, _, _ => by kernel_rfl
  | 3, _, _ => by kernel_rfl
  | 4, _, _ => by kernel_rfl
  | 5, _, _ => by kernel_rfl
  | 6, _, _ => by kernel_rfl
  | 7, _, _ => by kernel_rfl
  | n + 8, h, _ => absurd h (by omega)
theorem getD_some {l : List ByteArray} {k : Nat} (hk : k < l.length) : l[k]? = some (l.getD k ⟨#[]⟩) := by
  rw [List.getElem?_eq_getElem hk, List.getD_eq_getElem?_getD, List.getElem?_eq_getElem hk]; rfl
end Go.Proofs.YtafbghlldlconaaGreatDoor

/-
  THE KIND OF A NODE, whole: kinds.Of, ref11.Of: the walks.
-/
namespace Go.Proofs.YtafbghlldlconaaGreatDoor
set_option linter.unusedVariables false
set_option linter.unusedSimpArgs false
open Go.RowKit PT

theorem kind_input {x : Nd} (h : (⟨#[105, 110, 112, 117, 116]⟩ : ByteArray) = x.nm) : kindOf x = tyK (tyOf x) := by unfold kindOf; rw [if_pos h.symm]
theorem kind_button {x : Nd} (h0 : ¬ (⟨#[105, 110, 112, 117, 116]⟩ : ByteArray) = x.nm) (h : (⟨#[98, 117, 116, 116, 111, 110]⟩ : ByteArray) = x.nm) : kindOf x = btK (tyOf x) := by unfold kindOf; rw [if_neg (fun e => h0 e.symm), if_pos h.symm]
theorem kind_select {x : Nd} (h0 : ¬ (⟨#[105, 110, 112, 117, 116]⟩ : ByteArray) = x.nm) (h1 : ¬ (⟨#[98, 117, 116, 116, 111, 110]⟩ : ByteArray) = x.nm) (h : (⟨#[115, 101, 108, 101, 99, 116]⟩ : ByteArray) = x.nm) : kindOf x = 23 := by unfold kindOf; rw [if_neg (fun e => h0 e.symm), if_neg (fun e => h1 e.symm), if_pos h.symm]
theorem kind_area {x : Nd} (h0 : ¬ (⟨#[105, 110, 112, 117, 116]⟩ : ByteArray) = x.nm) (h1 : ¬ (⟨#[98, 117, 116, 116, 111, 110]⟩ : ByteArray) = x.nm) (h2 : ¬ (⟨#[115, 101, 108, 101, 99, 116]⟩ : ByteArray) = x.nm) (h : (⟨#[116, 101, 120, 116, 97, 114, 101, 97]⟩ : ByteArray) = x.nm) : kindOf x = 24 := by unfold kindOf; rw [if_neg (fun e => h0 e.symm), if_neg (fun e => h1 e.symm), if_neg (fun e => h2 e.symm), if_pos h.symm]
theorem kind_other {x : Nd} (h0 : ¬ (⟨#[105, 110, 112, 117, 116]⟩ : ByteArray) = x.nm) (h1 : ¬ (⟨#[98, 117, 116, 116, 111, 110]⟩ : ByteArray) = x.nm) (h2 : ¬ (⟨#[115, 101, 108, 101, 99, 116]⟩ : ByteArray) = x.nm) (h3 : ¬ (⟨#[116, 101, 120, 116, 97, 114, 101, 97]⟩ : ByteArray) = x.nm) : kindOf x = otK x.nm := by unfold kindOf; rw [if_neg (fun e => h0 e.symm), if_neg (fun e => h1 e.symm), if_neg (fun e => h2 e.symm), if_neg (fun e => h3 e.symm)]
theorem btK_reset {ty : ByteArray} (h : (⟨#[114, 101, 115, 101, 116]⟩ : ByteArray) = ty) : btK ty = 26 := by unfold btK; rw [if_pos h.symm]
theorem btK_button {ty : ByteArray} (h0 : ¬ (⟨#[114, 101, 115, 101, 116]⟩ : ByteArray) = ty) (h : (⟨#[98, 117, 116, 116, 111, 110]⟩ : ByteArray) = ty) : btK ty = 27 := by unfold btK; rw [if_neg (fun e => h0 e.symm), if_pos h.symm]
theorem btK_else {ty : ByteArray} (h0 : ¬ (⟨#[114, 101, 115, 101, 116]⟩ : ByteArray) = ty) (h : ¬ (⟨#[98, 117, 116, 116, 111, 110]⟩ : ByteArray) = ty) : btK ty = 25 := by unfold btK; rw [if_neg (fun e => h0 e.symm), if_neg (fun e => h e.symm)]
theorem atO_size (l : List At) (s : ByteArray) {n : Nat} (hA : ∀ a ∈ l, a.v.size ≤ n) : ((atO l s).getD ⟨#[]⟩).size ≤ n := by
  rcases fi_cases l (isN s) with ⟨h, _⟩ | ⟨k, hk, h, _⟩
  · rw [atO_none h]; exact Nat.zero_le _
  · rw [atO_some hk h]; exact hA _ (List.getElem_mem hk)
set_option maxHeartbeats 4000000 in
set_option maxRecDepth 100000 in
theorem kindsOf_any (x : Nd) (va vk : Value) (hl : x.ats.length ≤ 1000000000000000) (hA : ∀ a ∈ x.ats, a.v.size ≤ 140737488351232) (w : World) (hU : Atts x.ats va w) :
    Calls Tryz.prog 19 #[NdV x va vk] w fun e w' => e = .returned (.int .i64 (kindOf x)) ∧ Below w.heap.size w w' := by
  have hsz := atO_size x.ats ⟨#[116, 121, 112, 101]⟩ hA
  have hty : tyOf x = ⟨(low ((atO x.ats ⟨#[116, 121, 112, 101]⟩).getD ⟨#[]⟩).data.toList).toArray⟩ := rfl
  have HTY := Lib.hid hty
  clear hty
  have hb0 := (Below.refl w.heap.size w).alloc (Nat.le_refl _) (.cells #[.string x.nm, .string x.tx, va, .int .i64 x.pa, vk] 54)
  have hn0 := Go.heap_alloc_new w (.cells #[.string x.nm, .string x.tx, va, .int .i64 x.pa, vk] 54)
  have hU0 := hU.kept hb0
  obtain ⟨a, cap, rfl⟩ := hU.len
  have hN : NdV x (.slice a x.ats.length cap) vk = .agg #[.string x.nm, .string x.tx, .slice a x.ats.length cap, .int .i64 x.pa, vk] := rfl
  rw [hN]
  clear hN
  go_enter Tryz.func19, Tryz.ntmps19
  go_upto_region 1 with fail
  generalize World.alloc _ _ = W0 at hb0 hn0 hU0 ⊢
  obtain ⟨x0, x1, x2, x3, x4, f0, f1, f2, f3, f4⟩ := five_of hn0
  go_wp2_with fail
  refine (kindsAttr_any x _ vk ⟨#[116, 121, 112, 101]⟩ hl _ hU0).mono ?_
  rintro e w1 ⟨rfl, hb1⟩
  have hn1 := blk_kept hb1 hn0
  have hb01 := bs hb0 hb1
  generalize (atO x.ats ⟨#[116, 121, 112, 101]⟩).getD ⟨#[]⟩ = tv at hsz HTY ⊢
  clear x0 x1 x2 x3 x4 f0 f1 f2 f3 f4
  go_wp2_with fail
  refine (lower_any tv _ hsz).mono ?_
  rintro e w2 ⟨rfl, hb2⟩
  rw [← HTY.out]
  have hn2 := blk_kept hb2 hn1
  have hbb := bs hb01 hb2
  obtain ⟨ty, hty⟩ : ∃ ty, tyOf x = ty := ⟨_, rfl⟩
  have HK := Lib.hid hty
  rw [hty]
  clear hty HTY hsz hn0 hU0 hb01 hb0 hb1 hb2 hn1
  obtain ⟨x0, x1, x2, x3, x4, f0, f1, f2, f3, f4⟩ := five_of hn2
  by_cases n1 : (⟨#[105, 110, 112, 117, 116]⟩ : ByteArray) = x.nm
  · have hK := Lib.hid (show kindOf x = tyK ty by rw [kind_input n1, HK.out])
    have p1 : (x.nm.toList == [105, 110, 112, 117, 116]) = true := ql_yes n1
    clear n1
    go_wp2_with fail
    refine (types_any _).mono ?_
    rintro e w3 ⟨rfl, hb3⟩
    have hb9 := bs hbb hb3
    go_wp2_with fail
    go_loop [16] (fun i => ∃ k : Nat, k ≤ 22 ∧ i = .int .i64 k ∧ Hid (∀ j, j < k → tyL[j]? ≠ some ty)) (fun i => 22 - (intOf i).toNat)
    case atStart => exact ⟨0, Nat.zero_le _, rfl, Lib.hid (fun j hj => by omega)⟩
    case round =>
      obtain ⟨k, hk, rfl, hno⟩ := hrel
      by_cases hlt : k < 22
      · have hlt' : (k : Int) < 22 := by omega
        have hix := tyIdx k hlt
        have hgd := Lib.hid (getD_some (l := tyL) (k := k) hlt)
        generalize tyL.getD k ⟨#[]⟩ = s at hix hgd
        by_cases hs : s = ty
        · have hR := Lib.hid (hK.out.trans (tyK_hit hlt hno.out (by rw [hgd.out, hs])))
          have hq := sTrue hs
          clear hs
          go_wp2_with fail
          go_ret
          exact ⟨ret_int hR.out.symm, hb9⟩
        · have hN := Lib.hid (show ∀ j, j < k + 1 → tyL[j]? ≠ some ty from fun j hj => by
            by_cases e : j = k
            · rw [e, hgd.out]; exact fun e2 => hs (Option.some.inj e2)
            · exact hno.out j (by omega))
          have hq := sFalse hs
          clear hs
          go_wp2_with fail
          go_round
          case rel => exact ⟨k + 1, by omega, by go_num, hN⟩
          case measure => simp [intOf]; omega
      · obtain rfl : k = 22 := by omega
        have hR := Lib.hid (hK.out.trans (tyK_none hno.out))
        go_wp2_with fail
        go_ret
        exact ⟨ret_int hR.out.symm, hb9⟩
  · have p1 : (x.nm.toList == [105, 110, 112, 117, 116]) = false := ql_no n1
    by_cases n2 : (⟨#[98, 117, 116, 116, 111, 110]⟩ : ByteArray) = x.nm
    · have hK := Lib.hid (show kindOf x = btK ty by rw [kind_button n1 n2, HK.out])
      have p2 : (x.nm.toList == [98, 117, 116, 116, 111, 110]) = true := ql_yes n2
      clear n1 n2
      by_cases r1 : (⟨#[114, 101, 115, 101, 116]⟩ : ByteArray) = ty
      · have hR := Lib.hid (hK.out.trans (btK_reset r1))
        have q1 : (ty.toList == [114, 101, 115, 101, 116]) = true := ql_yes r1
        clear r1
        go_wp2_with fail
        go_ret
        exact ⟨ret_int hR.out.symm, hbb⟩
      · have q1 : (ty.toList == [114, 101, 115, 101, 116]) = false := ql_no r1
        by_cases r2 : (⟨#[98, 117, 116, 116, 111, 110]⟩ : ByteArray) = ty
        · have hR := Lib.hid (hK.out.trans (btK_button r1 r2))
          have q2 : (ty.toList == [98, 117, 116, 116, 111, 110]) = true := ql_yes r2
          clear r1 r2
          go_wp2_with fail
          go_ret
          exact ⟨ret_int hR.out.symm, hbb⟩
        · have hR := Lib.hid (hK.out.trans (btK_else r1 r2))
          have q2 : (ty.toList == [98, 117, 116, 116, 111, 110]) = false := ql_no r2
          clear r1 r2
          go_wp2_with fail
          go_ret
          exact ⟨ret_int hR.out.symm, hbb⟩
    · have p2 : (x.nm.toList == [98, 117, 116, 116, 111, 110]) = false := ql_no n2
      by_cases n3 : (⟨#[115, 101, 108, 101, 99, 116]⟩ : ByteArray) = x.nm
      · have hR := Lib.hid (kind_select n1 n2 n3)
        have p3 : (x.nm.toList == [115, 101, 108, 101, 99, 116]) = true := ql_yes n3
        clear n1 n2 n3
        go_wp2_with fail
        go_ret
        exact ⟨ret_int hR.out.symm, hbb⟩
      · have p3 : (x.nm.toList == [115, 101, 108, 101, 99, 116]) = false := ql_no n3
        by_cases n4 : (⟨#[116, 101, 120, 116, 97, 114, 101, 97]⟩ : ByteArray) = x.nm
        · have hR := Lib.hid (kind_area n1 n2 n3 n4)
          have p4 : (x.nm.toList == [116, 101, 120, 116, 97, 114, 101, 97]) = true := ql_yes n4
          clear n1 n2 n3 n4
          go_wp2_with fail
          go_ret
          exact ⟨ret_int hR.out.symm, hbb⟩
        · have hK := Lib.hid (kind_other n1 n2 n3 n4)
          have p4 : (x.nm.toList == [116, 101, 120, 116, 97, 114, 101, 97]) = false := ql_no n4
          clear n1 n2 n3 n4
          go_wp2_with fail
          go_loop [38] (fun i => ∃ k : Nat, k ≤ 8 ∧ i = .int .i64 k ∧ Hid (∀ j, j < k → otL[j]? ≠ some x.nm)) (fun i => 8 - (intOf i).toNat)
          case atStart => exact ⟨0, Nat.zero_le _, rfl, Lib.hid (fun j hj => by omega)⟩
          case round =>
            obtain ⟨k, hk, rfl, hno⟩ := hrel
            by_cases hlt : k < 8
            · have hlt' : (k : Int) < 8 := by omega
              have hix := otIdx k hlt
              have hgd := Lib.hid (getD_some (l := otL) (k := k) hlt)
              generalize otL.getD k ⟨#[]⟩ = s at hix hgd
              by_cases hs : s = x.nm
              · have hR := Lib.hid (hK.out.trans (otK_hit hlt hno.out (by rw [hgd.out, hs])))
                have hq := sTrue hs
                clear hs
                go_wp2_with fail
                go_ret
                exact ⟨ret_int hR.out.symm, hbb⟩
              · have hN := Lib.hid (show ∀ j, j < k + 1 → otL[j]? ≠ some x.nm from fun j hj => by
                  by_cases e : j = k
                  · rw [e, hgd.out]; exact fun e2 => hs (Option.some.inj e2)
                  · exact hno.out j (by omega))
                have hq := sFalse hs
                clear hs
                go_wp2_with fail
                go_round
                case rel => exact ⟨k + 1, by omega, by go_num, hN⟩
                case measure => simp [intOf]; omega
            · obtain rfl : k = 8 := by omega
              have hR := Lib.hid (hK.out.trans (otK_none hno.out))
              go_wp2_with fail
              go_ret
              exact ⟨ret_int hR.out.symm, hbb⟩
end Go.Proofs.YtafbghlldlconaaGreatDoor

/-
  THE KIND OF A NODE by the document: ref11.Of: the walk.
-/
namespace Go.Proofs.YtafbghlldlconaaGreatDoor
set_option linter.unusedVariables false
set_option linter.unusedSimpArgs false
open Go.RowKit PT

set_option maxHeartbeats 4000000 in
set_option maxRecDepth 100000 in
theorem refOf11_any (x : Nd) (va vk : Value) (hl : x.ats.length ≤ 1000000000000000) (hA : ∀ a ∈ x.ats, a.v.size ≤ 65536) (w : World) (hU : Atts x.ats va w) :
    Calls Tryz.prog 75 #[NdV x va vk] w fun e w' => e = .returned (.int .i64 (kindOf x)) ∧ Below w.heap.size w w' := by
  have hty0 : tyOf x = ⟨(low ((atO x.ats ⟨#[116, 121, 112, 101]⟩).getD ⟨#[]⟩).data.toList).toArray⟩ := rfl
  have HTY := Lib.hid hty0
  clear hty0
  have hb0 := (Below.refl w.heap.size w).alloc (Nat.le_refl _) (.cells #[.string x.nm, .string x.tx, va, .int .i64 x.pa, vk] 54)
  have hn0 := Go.heap_alloc_new w (.cells #[.string x.nm, .string x.tx, va, .int .i64 x.pa, vk] 54)
  have hU0 := hU.kept hb0
  obtain ⟨a, cap, rfl⟩ := hU.len
  have hN : NdV x (.slice a x.ats.length cap) vk = .agg #[.string x.nm, .string x.tx, .slice a x.ats.length cap, .int .i64 x.pa, vk] := rfl
  rw [hN]
  clear hN
  go_enter Tryz.func75, Tryz.ntmps75
  go_upto_region 1 with fail
  generalize World.alloc _ _ = W0 at hb0 hn0 hU0 ⊢
  obtain ⟨x0, x1, x2, x3, x4, f0, f1, f2, f3, f4⟩ := five_of hn0
  go_wp2_with fail
  refine (refFind10_any x.ats _ ⟨#[116, 121, 112, 101]⟩ hl _ hU0).mono ?_
  rintro e w' ⟨rfl, rfl⟩
  obtain ⟨ty, hty⟩ : ∃ ty, tyOf x = ty := ⟨_, rfl⟩
  have HK := Lib.hid hty
  clear hty
  have hfc := fi_cases x.ats (isN ⟨#[116, 121, 112, 101]⟩)
  generalize hfi : fi x.ats (isN ⟨#[116, 121, 112, 101]⟩) = z at hfc ⊢
  have HZ := Lib.hid hfi
  have HC := Lib.hid hfc
  clear hfi hfc
  go_upto_if 10 with (fail)
  go_cut [4] (fun s4 wx => s4 = .string ty ∧ Below w.heap.size w wx ∧ wx.heap[w.heap.size]? = some (.cells #[.string x.nm, .string x.tx, .slice a x.ats.length cap, .int .i64 x.pa, vk] 54 (0, 0)))
  case first =>
    rcases HC.out with ⟨h, _⟩ | ⟨kk, hkk, h, _⟩
    · subst h
      have hte := Lib.hid (show (⟨#[]⟩ : ByteArray) = ty by rw [← HK.out, HTY.out, atO_none HZ.out]; rfl)
      clear HC
      go_wp2_with fail
      go_meet
      exact ⟨by rw [hte.out], hb0, hn0⟩
    · subst h
      have hsz := hA _ (List.getElem_mem hkk)
      have hte := Lib.hid (show (⟨(low x.ats[kk].v.data.toList).toArray⟩ : ByteArray) = ty by rw [← HK.out, HTY.out, atO_some hkk HZ.out]; rfl)
      obtain ⟨b, o, cap', hv, _, hb, hc0, hc1⟩ := hU0.at hkk
      cases hv
      generalize x.ats[kk] = y at *
      have hk0 : (0 : Int) ≤ (kk : Int) := by omega
      have hk1 : (kk : Int) < (x.ats.length : Int) := by omega
      clear HC
      go_wp2_with fail
      refine (refLower_any y.v _ hsz).mono ?_
      rintro e w2 ⟨rfl, hb2⟩
      rw [hte.out]
      have hn2 := blk_kept hb2 hn0
      go_wp2_with fail
      go_meet
      exact ⟨rfl, bs hb0 hb2, hn2⟩
  case rest =>
    obtain ⟨rfl, hbb, hn9⟩ := hcut
    clear x0 x1 x2 x3 x4 f0 f1 f2 f3 f4 hn0 hU0 hb0 HC HZ HTY
    obtain ⟨x0, x1, x2, x3, x4, f0, f1, f2, f3, f4⟩ := five_of hn9
    by_cases n1 : (⟨#[105, 110, 112, 117, 116]⟩ : ByteArray) = x.nm
    · have hK := Lib.hid (show kindOf x = tyK ty by rw [kind_input n1, HK.out])
      have p1 : (x.nm.toList == [105, 110, 112, 117, 116]) = true := ql_yes n1
      clear n1
      go_wp2_with fail
      go_loop [5] (fun i => ∃ k : Nat, k ≤ 22 ∧ i = .int .i64 ((k + 1 : Nat) : Int) ∧ Hid (∀ j, j < k → tyL[j]? ≠ some ty)) (fun i => 23 - (intOf i).toNat)
      case atStart => exact ⟨0, Nat.zero_le _, rfl, Lib.hid (fun j hj => by omega)⟩
      case round =>
        obtain ⟨k, hk, rfl, hno⟩ := hrel
        by_cases hlt : k < 22
        · have hlt' : (k : Int) + 1 ≤ 22 := by omega
          go_wp2_with fail
          refine (refType11_any _ (by omega) (by omega) _).mono ?_
          rintro e w' ⟨⟨s, rfl, hs0⟩, rfl⟩
          have hgd := Lib.hid (show tyL[k]? = some s by rw [← hs0]; congr 1; omega)
          clear hs0
          by_cases hs : s = ty
          · have hR := Lib.hid (hK.out.trans (tyK_hit hlt hno.out (by rw [hgd.out, hs])))
            have hq := sTrue hs
            clear hs
            go_wp2_with fail
            go_ret
            exact ⟨ret_int hR.out.symm, hbb⟩
          · have hN := Lib.hid (show ∀ j, j < k + 1 → tyL[j]? ≠ some ty from fun j hj => by
              by_cases e : j = k
              · rw [e, hgd.out]; exact fun e2 => hs (Option.some.inj e2)
              · exact hno.out j (by omega))
            have hq := sFalse hs
            clear hs
            go_wp2_with fail
            go_round
            case rel => exact ⟨k + 1, by omega, by go_num, hN⟩
            case measure => simp [intOf]; omega
        · obtain rfl : k = 22 := by omega
          have hR := Lib.hid (hK.out.trans (tyK_none hno.out))
          go_wp2_with fail
          go_ret
          exact ⟨ret_int hR.out.symm, hbb⟩
    · have p1 : (x.nm.toList == [105, 110, 112, 117, 116]) = false := ql_no n1
      by_cases n2 : (⟨#[98, 117, 116, 116, 111, 110]⟩ : ByteArray) = x.nm
      · have hK := Lib.hid (show kindOf x = btK ty by rw [kind_button n1 n2, HK.out])
        have p2 : (x.nm.toList == [98, 117, 116, 116, 111, 110]) = true := ql_yes n2
        clear n1 n2
        by_cases r1 : (⟨#[114, 101, 115, 101, 116]⟩ : ByteArray) = ty
        · have hR := Lib.hid (hK.out.trans (btK_reset r1))
          have q1 : (ty.toList == [114, 101, 115, 101, 116]) = true := ql_yes r1
          clear r1
          go_wp2_with fail
          go_ret
          exact ⟨ret_int hR.out.symm, hbb⟩
        · have q1 : (ty.toList == [114, 101, 115, 101, 116]) = false := ql_no r1
          by_cases r2 : (⟨#[98, 117, 116, 116, 111, 110]⟩ : ByteArray) = ty
          · have hR := Lib.hid (hK.out.trans (btK_button r1 r2))
            have q2 : (ty.toList == [98, 117, 116, 116, 111, 110]) = true := ql_yes r2
            clear r1 r2
            go_wp2_with fail
            go_ret
            exact ⟨ret_int hR.out.symm, hbb⟩
          · have hR := Lib.hid (hK.out.trans (btK_else r1 r2))
            have q2 : (ty.toList == [98, 117, 116, 116, 111, 110]) = false := ql_no r2
            clear r1 r2
            go_wp2_with fail
            go_ret
            exact ⟨ret_int hR.out.symm, hbb⟩
      · have p2 : (x.nm.toList == [98, 117, 116, 116, 111, 110]) = false := ql_no n2
        by_cases n3 : (⟨#[115, 101, 108, 101, 99, 116]⟩ : ByteArray) = x.nm
        · have hR := Lib.hid (kind_select n1 n2 n3)
          have p3 : (x.nm.toList == [115, 101, 108, 101, 99, 116]) = true := ql_yes n3
          clear n1 n2 n3
          go_wp2_with fail
          go_ret
          exact ⟨ret_int hR.out.symm, hbb⟩
        · have p3 : (x.nm.toList == [115, 101, 108, 101, 99, 116]) = false := ql_no n3
          by_cases n4 : (⟨#[116, 101, 120, 116, 97, 114, 101, 97]⟩ : ByteArray) = x.nm
          · have hR := Lib.hid (kind_area n1 n2 n3 n4)
            have p4 : (x.nm.toList == [116, 101, 120, 116, 97, 114, 101, 97]) = true := ql_yes n4
            clear n1 n2 n3 n4
            go_wp2_with fail
            go_ret
            exact ⟨ret_int hR.out.symm, hbb⟩
          · have p4 : (x.nm.toList == [116, 101, 120, 116, 97, 114, 101, 97]) = false := ql_no n4
            have hK := Lib.hid (kind_other n1 n2 n3 n4)
            clear n1 n2 n3 n4
            by_cases m0 : (⟨#[111, 117, 116, 112, 117, 116]⟩ : ByteArray) = x.nm
            · have hR := Lib.hid (hK.out.trans (show otK x.nm = 28 by rw [← m0]; rfl))
              have o0 : (x.nm.toList == [111, 117, 116, 112, 117, 116]) = true := ql_yes m0
              clear  m0
              go_wp2_with fail
              go_ret
              exact ⟨ret_int hR.out.symm, hbb⟩
            · have o0 : (x.nm.toList == [111, 117, 116, 112, 117, 116]) = false := ql_no m0
              by_cases m1 : (⟨#[102, 105, 101, 108, 100, 115, 101, 116]⟩ : ByteArray) = x.nm
              · have hR := Lib.hid (hK.out.trans (show otK x.nm = 29 by rw [← m1]; rfl))
                have o1 : (x.nm.toList == [102, 105, 101, 108, 100, 115, 101, 116]) = true := ql_yes m1
                clear m0 m1
                go_wp2_with fail
                go_ret
                exact ⟨ret_int hR.out.symm, hbb⟩
              · have o1 : (x.nm.toList == [102, 105, 101, 108, 100, 115, 101, 116]) = false := ql_no m1
                by_cases m2 : (⟨#[102, 111, 114, 109]⟩ : ByteArray) = x.nm
                · have hR := Lib.hid (hK.out.trans (show otK x.nm = 30 by rw [← m2]; rfl))
                  have o2 : (x.nm.toList == [102, 111, 114, 109]) = true := ql_yes m2
                  clear m0 m1 m2
                  go_wp2_with fail
                  go_ret
                  exact ⟨ret_int hR.out.symm, hbb⟩
                · have o2 : (x.nm.toList == [102, 111, 114, 109]) = false := ql_no m2
                  by_cases m3 : (⟨#[108, 97, 98, 101, 108]⟩ : ByteArray) = x.nm
                  · have hR := Lib.hid (hK.out.trans (show otK x.nm = 31 by rw [← m3]; rfl))
                    have o3 : (x.nm.toList == [108, 97, 98, 101, 108]) = true := ql_yes m3
                    clear m0 m1 m2 m3
                    go_wp2_with fail
                    go_ret
                    exact ⟨ret_int hR.out.symm, hbb⟩
                  · have o3 : (x.nm.toList == [108, 97, 98, 101, 108]) = false := ql_no m3
                    by_cases m4 : (⟨#[111, 112, 116, 105, 111, 110]⟩ : ByteArray) = x.nm
                    · have hR := Lib.hid (hK.out.trans (show otK x.nm = 32 by rw [← m4]; rfl))
                      have o4 : (x.nm.toList == [111, 112, 116, 105, 111, 110]) = true := ql_yes m4
                      clear m0 m1 m2 m3 m4
                      go_wp2_with fail
                      go_ret
                      exact ⟨ret_int hR.out.symm, hbb⟩
                    · have o4 : (x.nm.toList == [111, 112, 116, 105, 111, 110]) = false := ql_no m4
                      by_cases m5 : (⟨#[111, 112, 116, 103, 114, 111, 117, 112]⟩ : ByteArray) = x.nm
                      · have hR := Lib.hid (hK.out.trans (show otK x.nm = 33 by rw [← m5]; rfl))
                        have o5 : (x.nm.toList == [111, 112, 116, 103, 114, 111, 117, 112]) = true := ql_yes m5
                        clear m0 m1 m2 m3 m4 m5
                        go_wp2_with fail
                        go_ret
                        exact ⟨ret_int hR.out.symm, hbb⟩
                      · have o5 : (x.nm.toList == [111, 112, 116, 103, 114, 111, 117, 112]) = false := ql_no m5
                        by_cases m6 : (⟨#[108, 101, 103, 101, 110, 100]⟩ : ByteArray) = x.nm
                        · have hR := Lib.hid (hK.out.trans (show otK x.nm = 34 by rw [← m6]; rfl))
                          have o6 : (x.nm.toList == [108, 101, 103, 101, 110, 100]) = true := ql_yes m6
                          clear m0 m1 m2 m3 m4 m5 m6
                          go_wp2_with fail
                          go_ret
                          exact ⟨ret_int hR.out.symm, hbb⟩
                        · have o6 : (x.nm.toList == [108, 101, 103, 101, 110, 100]) = false := ql_no m6
                          by_cases m7 : (⟨#[100, 97, 116, 97, 108, 105, 115, 116]⟩ : ByteArray) = x.nm
                          · have hR := Lib.hid (hK.out.trans (show otK x.nm = 35 by rw [← m7]; rfl))
                            have o7 : (x.nm.toList == [100, 97, 116, 97, 108, 105, 115, 116]) = true := ql_yes m7
                            clear m0 m1 m2 m3 m4 m5 m6 m7
                            go_wp2_with fail
                            go_ret
                            exact ⟨ret_int hR.out.symm, hbb⟩
                          · have o7 : (x.nm.toList == [100, 97, 116, 97, 108, 105, 115, 116]) = false := ql_no m7
                            have hR := Lib.hid (hK.out.trans (otK_none (fun j hj => by
                              match j, hj with
                              | 0, _ => exact fun e => m0 (Option.some.inj e)
                              | 1, _ => exact fun e => m1 (Option.some.inj e)
                              | 2, _ => exact fun e => m2 (Option.some.inj e)
                              | 3, _ => exact fun e => m3 (Option.some.inj e)
                              | 4, _ => exact fun e => m4 (Option.some.inj e)
                              | 5, _ => exact fun e => m5 (Option.some.inj e)
                              | 6, _ => exact fun e => m6 (Option.some.inj e)
                              | 7, _ => exact fun e => m7 (Option.some.inj e)
                              | n + 8, hj => omega)))
                            clear m0 m1 m2 m3 m4 m5 m6 m7
                            go_wp2_with fail
                            go_ret
                            exact ⟨ret_int hR.out.symm, hbb⟩
end Go.Proofs.YtafbghlldlconaaGreatDoor

/-
  KINDS OF A DOCUMENT's NODES: owner.kind, ref16.kind, ref15.Is: the walks.
-/
namespace Go.Proofs.YtafbghlldlconaaGreatDoor
set_option linter.unusedVariables false
set_option linter.unusedSimpArgs false
open Go.RowKit PT

def kOf (l : List Nd) (i : Int) : Int := match l[i.toNat]? with
  | some x => kindOf x
  | none => 0
theorem kOf_at {l : List Nd} {k : Nat} (hk : k < l.length) : kOf l k = kindOf l[k] := by
  unfold kOf; rw [Int.toNat_natCast, List.getElem?_eq_getElem hk]
/-- .. 0: there is no such node -/
def kindF (l : List Nd) (i : Int) : Int := if 0 ≤ i ∧ i < l.length then kOf l i else 0
theorem one_vals {x : Nd} (h : oneB x = true) : ∀ a ∈ x.ats, a.v.size ≤ 4000 := by
  unfold oneB at h
  split at h
  · rw [Bool.and_eq_true, decide_eq_true_iff] at h
    intro a ha
    rw [List.length_eq_zero_iff.1 h.1] at ha
    cases ha
  · rw [Bool.and_eq_true, Bool.and_eq_true, Bool.and_eq_true, List.all_eq_true] at h
    intro a ha
    obtain ⟨j, hj, rfl⟩ := List.getElem_of_mem ha
    have := h.2.2.2 j (List.mem_range.2 hj)
    unfold atB at this
    rw [List.getElem?_eq_getElem hj] at this
    simp only [Bool.and_eq_true, decide_eq_true_iff] at this
    exact this.2.1
end Go.Proofs.YtafbghlldlconaaGreatDoor

/-
  A NODE OF AN id: tree.Named: the walk.
-/
namespace Go.Proofs.YtafbghlldlconaaGreatDoor
set_option linter.unusedVariables false
set_option linter.unusedSimpArgs false
open Go.RowKit PT

def idK (l : List Nd) (s : ByteArray) (k : Int) : Bool := decide (atO (atsOf l k) ⟨#[105, 100]⟩ = some s)
def firstF (p : Int → Bool) (t : List Int) : Int := (t.find? p).getD (-1)
theorem firstF_none {p : Int → Bool} {t : List Int} (h : ∀ x ∈ t, p x = false) : firstF p t = -1 := by
  unfold firstF
  rw [List.find?_eq_none.2 (fun x hx => by rw [h x hx]; exact Bool.false_ne_true)]
  rfl
theorem firstF_hit {p : Int → Bool} {t : List Int} {k : Nat} (hk : k < t.length) (hno : ∀ x ∈ t.take k, p x = false) (h : p t[k] = true) : firstF p t = t[k] := by
  unfold firstF
  rw [List.find?_eq_some_iff_getElem.2 ⟨h, k, hk, rfl, fun j hj => by
    have := hno t[j] (by
      rw [List.mem_take_iff_getElem]
      exact ⟨j, by omega, rfl⟩)
    simpa using this⟩]
  rfl
noncomputable def namedF (l : List Nd) (s : ByteArray) : Int := if s.size ≠ 0 ∧ rightB l = true then firstF (idK l s) (ord l 0) else -1
end Go.Proofs.YtafbghlldlconaaGreatDoor

/-
  A CONTROL's ⟨#[102, 111, 114, 109]⟩: owner.form, owner.Form: the walks.
-/
namespace Go.Proofs.YtafbghlldlconaaGreatDoor
set_option linter.unusedVariables false
set_option linter.unusedSimpArgs false
open Go.RowKit PT

theorem kindF_range (l : List Nd) (i : Int) : 0 ≤ kindF l i ∧ kindF l i ≤ 35 := by
  unfold kindF kOf
  split
  · split
    · exact kindOf_range _
    · omega
  · omega
noncomputable def formF (l : List Nd) (id : Int) : Int := if listB (kindF l id) = false ∧ kindF l id ≠ 20 then -1 else match attF l id ⟨#[102, 111, 114, 109]⟩ with
  | some s => if topB l id = 0 then (if kindF l (namedF l s) = 30 then namedF l s else -1) else upB l id ⟨#[102, 111, 114, 109]⟩
  | none => upB l id ⟨#[102, 111, 114, 109]⟩
theorem RightP.vals {l : List Nd} (h : RightP l) : ∀ x ∈ l, x.ats.length ≤ 1000000000000000 ∧ ∀ a ∈ x.ats, a.v.size ≤ 140737488351232 := fun x hx => by
  obtain ⟨i, hi, rfl⟩ := List.getElem_of_mem hx
  have h1 := (h.node i _ (List.getElem?_eq_getElem hi)).1
  exact ⟨Nat.le_trans (one_ats h1) (by omega), fun a ha => Nat.le_trans (one_vals h1 a ha) (by omega)⟩
noncomputable def FormF (l : List Nd) (id : Int) : Int := if rightB l = true then formF l id else -1
noncomputable def isF (l : List Nd) (id k : Int) : Bool := hasB l id && decide (kOf l id = k)
set_option maxHeartbeats 4000000 in
set_option maxRecDepth 100000 in
theorem refIs15_any (l : List Nd) (v : Value) (id k : Int) (hl : l.length ≤ 1000000000000000000) (hz : ∀ x ∈ l, Fits x) (w : World) (hU : Nodes l v w) :
    Calls Tryz.prog 148 #[v, .int .i64 id, .int .i64 k] w fun e w' => e = .returned (.bool (isF l id k)) ∧ Below w.heap.size w w' := by
  obtain ⟨a, cap, rfl⟩ := hU.len
  cases hh : hasB l id
  · have HH := Lib.hid hh
    have hR := Lib.hid (show isF l id k = false by unfold isF; rw [hh]; rfl)
    clear hh
    go_enter Tryz.func148, Tryz.ntmps148
    go_wp2_with fail
    refine (refHas10_any l _ id hl hz _ hU).mono ?_
    rintro e w' ⟨rfl, hb⟩
    rw [HH.out]
    go_wp2_with fail
    go_ret
    exact ⟨ret_bool hR.out.symm, hb⟩
  have HH := Lib.hid hh
  have hR0 := Lib.hid (show isF l id k = decide (kOf l id = k) by unfold isF; rw [hh]; rfl)
  obtain ⟨h0, h1, hRP⟩ := (hasB_iff l id).1 hh
  obtain ⟨K, rfl⟩ := Int.eq_ofNat_of_zero_le h0
  have hkl : K < l.length := by omega
  clear hh
  go_enter Tryz.func148, Tryz.ntmps148
  go_wp2_with fail
  refine (refHas10_any l _ _ hl hz _ hU).mono ?_
  rintro e w' ⟨rfl, hbW⟩
  rw [HH.out]
  have hgW := hbW.size
  obtain ⟨b, o, cap', va, vk, hv, hb, c0, c1, c2, c3, c4, hat, hks⟩ := (hU.kept hbW).at hkl
  cases hv
  have hke := Lib.hid (kOf_at hkl)
  have hz1 := (hRP.node K _ (List.getElem?_eq_getElem hkl)).1
  have z1 := one_ats hz1
  have z2 := one_vals hz1
  generalize l[K] = x at *
  clear hz1
  have hK0 : (0 : Int) ≤ (K : Int) := by omega
  have hK1 : (K : Int) < (l.length : Int) := by omega
  by_cases hk : kindOf x = k
  · have hR := Lib.hid (show isF l (K : Nat) k = true by rw [hR0.out, hke.out]; exact decide_eq_true hk)
    have HK := Lib.hid hk
    clear hk
    go_wp2_with fail
    refine (refOf11_any x va vk (by omega) (fun a ha => Nat.le_trans (z2 a ha) (by omega)) _ hat).mono ?_
    rintro e w2 ⟨rfl, hb9⟩
    rw [HK.out]
    go_wp2_with fail
    go_ret
    exact ⟨ret_bool hR.out.symm, hbW.trans (hb9.mono hgW)⟩
  · have hR := Lib.hid (show isF l (K : Nat) k = false by rw [hR0.out, hke.out]; exact decide_eq_false hk)
    have q := intNe hk
    clear hk
    go_wp2_with fail
    refine (refOf11_any x va vk (by omega) (fun a ha => Nat.le_trans (z2 a ha) (by omega)) _ hat).mono ?_
    rintro e w2 ⟨rfl, hb9⟩
    go_wp2_with fail
    go_ret
    exact ⟨ret_bool hR.out.symm, hbW.trans (hb9.mono hgW)⟩
end Go.Proofs.YtafbghlldlconaaGreatDoor
