import Derived.Test.YtafbghlldlconaaGreatPart1
import Derived.Shelf.Abstract
import Derived.Laws.CopyRow
import Derived.Deep.RegionHeld3
import Derived.Deep.CutRange
import Derived.Deep.DeepCutAuto
/-
  ATTRIBUTES: slices.IndexFunc, ContainsFunc over them; tree.find, kinds.attr, owner.has; ref10.Find, ref14.Attr, ref15.Has: the walks.
-/
namespace Go.Proofs.YtafbghlldlconaaGreat
set_option linter.unusedVariables false
set_option linter.unusedSimpArgs false
open Go.RowKit

theorem take_mem_snoc {α : Type} {l : List α} {k : Nat} (hk : k < l.length) {P : α → Prop} (h : ∀ x ∈ l.take k, P x) (hx : P l[k]) : ∀ x ∈ l.take (k + 1), P x := by
  rw [List.take_succ_eq_append_getElem hk]
  intro x hm
  rcases List.mem_append.1 hm with hm | hm
  · exact h x hm
  · rw [List.mem_singleton] at hm; rw [hm]; exact hx
def atV (x : At) : Value := .agg #[.string x.n, .string x.v]
set_option maxHeartbeats 1000000 in
set_option maxRecDepth 100000 in
theorem indexFuncA_any (l : List At) (f : At → Bool) (u : Value) (g : Nat) (lb : Array Value) (eg : ∀ args w, (callFunc g args).run Tryz.prog w = .ok (.enter g args) w) (hl : l.length ≤ 1000000000000000) (w : World) (hU : Atts l u w)
    (hp : ∀ W, Below w.heap.size w W → ∀ x ∈ l, Calls Tryz.prog g (#[atV x] ++ lb) W fun e w' => e = .returned (.bool (f x)) ∧ Below W.heap.size W w') :
    Calls Tryz.prog 57 #[u, .func (.func g) #[] lb] w fun e w' => e = .returned (.int .i64 (fi l f)) ∧ Below w.heap.size w w' := by
  obtain ⟨a, cap, rfl⟩ := hU.len
  go_enter Tryz.func57, Tryz.ntmps57
  go_wp2_with fail
  go_loopw [8] (fun i wr => ∃ k : Nat, k ≤ l.length ∧ i = .int .i64 k ∧ Hid (∀ x ∈ l.take k, f x = false) ∧ Below w.heap.size w wr) (fun i _ => l.length - (intOf i).toNat)
  case atStart => exact ⟨0, Nat.zero_le _, rfl, Lib.hid (by simp), Below.refl _ _⟩
  case round =>
    obtain ⟨k, hk, rfl, hA, hbel⟩ := hrel
    by_cases hlt : k < l.length
    · obtain ⟨b, o, cap', hv, _, hb, hc0, hc1⟩ := (hU.kept hbel).at hlt
      cases hv
      have hT := Lib.hid (fun h => take_mem_snoc (P := fun x => f x = false) hlt hA.out h)
      have hH := Lib.hid (fun h => fi_hit hlt hA.out h)
      have hM := List.getElem_mem hlt
      have hcall := hp wr hbel l[k] hM
      generalize l[k] = x at *
      unfold atV at hcall
      have HC := Lib.hid hcall
      clear hcall
      go_wp2_with fail
      refine HC.out.mono ?_
      rintro e w2 ⟨rfl, hb2⟩
      cases hf : f x
      · have hN := Lib.hid (hT.out hf)
        clear hf
        go_wp2_with fail
        go_roundw
        case rel => exact ⟨k + 1, by omega, by go_num, hN, hbel.trans (hb2.mono hbel.size)⟩
        case measure => simp [intOf]; omega
      · have hN := Lib.hid (hH.out hf)
        clear hf
        go_wp2_with fail
        go_ret
        exact ⟨ret_int hN.out.symm, hbel.trans (hb2.mono hbel.size)⟩
    · obtain rfl : k = l.length := by omega
      have hN := Lib.hid (show fi l f = -1 from fi_none (by have := hA.out; rwa [List.take_of_length_le (Nat.le_refl _)] at this))
      go_wp2_with fail
      go_ret
      exact ⟨ret_int hN.out.symm, hbel⟩
/-- is there one? -/
def hasA (l : List At) (f : At → Bool) : Bool := decide (0 ≤ fi l f)
set_option maxHeartbeats 1000000 in
set_option maxRecDepth 100000 in
theorem containsFuncA_any (l : List At) (f : At → Bool) (u : Value) (g : Nat) (lb : Array Value) (eg : ∀ args w, (callFunc g args).run Tryz.prog w = .ok (.enter g args) w) (hl : l.length ≤ 1000000000000000) (w : World) (hU : Atts l u w)
    (hp : ∀ W, Below w.heap.size w W → ∀ x ∈ l, Calls Tryz.prog g (#[atV x] ++ lb) W fun e w' => e = .returned (.bool (f x)) ∧ Below W.heap.size W w') :
    Calls Tryz.prog 86 #[u, .func (.func g) #[] lb] w fun e w' => e = .returned (.bool (hasA l f)) ∧ Below w.heap.size w w' := by
  go_enter Tryz.func86, Tryz.ntmps86
  go_wp2_with fail
  refine (indexFuncA_any l f u g lb eg hl _ hU hp).mono ?_
  rintro e w2 ⟨rfl, hb2⟩
  have HZ := Lib.hid (show hasA l f = decide (0 ≤ fi l f) from rfl)
  generalize fi l f = z at HZ ⊢
  go_wp2_with fail
  go_ret
  exact ⟨ret_bool HZ.out.symm, hb2⟩
set_option maxHeartbeats 1000000 in
set_option maxRecDepth 100000 in
theorem findFn_any (x : At) (s : ByteArray) (B : Nat) (w : World) (hB : B < w.heap.size) (hc : w.cell? ⟨B, 0, none⟩ = some (.string s)) :
    Calls Tryz.prog 84 #[atV x, .pointer (some ⟨B, 0, none⟩)] w fun e w' => e = .returned (.bool (isN s x)) ∧ Below w.heap.size w w' := by
  unfold atV
  have hb0 := (Below.refl w.heap.size w).alloc (Nat.le_refl _) (.cells #[.string x.n, .string x.v] 52)
  by_cases h : x.n = s
  · have hR := Lib.hid (show isN s x = true from decide_eq_true h)
    have hq := sTrue h
    clear h
    go_enter Tryz.func84, Tryz.ntmps84
    go_wp2_with fail
    go_ret
    exact ⟨ret_bool hR.out.symm, hb0⟩
  · have hR := Lib.hid (show isN s x = false from decide_eq_false h)
    have hq := sFalse h
    clear h
    go_enter Tryz.func84, Tryz.ntmps84
    go_wp2_with fail
    go_ret
    exact ⟨ret_bool hR.out.symm, hb0⟩
set_option maxHeartbeats 1000000 in
set_option maxRecDepth 100000 in
theorem find_at (l : List At) (u : Value) (s : ByteArray) (hl : l.length ≤ 1000000000000000) (w : World) (hU : Atts l u w) :
    Calls Tryz.prog 62 #[u, .string s] w fun e w' => e = .returned (.int .i64 (fi l (isN s))) ∧ Below w.heap.size w w' := by
  have hb0 := (Below.refl w.heap.size w).alloc (Nat.le_refl _) (.cells #[.string s] 9)
  have hn0 := Go.heap_alloc_new w (.cells #[.string s] 9)
  have hs0 : (w.alloc (.cells #[.string s] 9)).heap.size = w.heap.size + 1 := by simp
  have hU0 := hU.kept hb0
  have hc0 : (w.alloc (.cells #[.string s] 9)).cell? ⟨w.heap.size, 0, none⟩ = some (.string s) := by simp only [World.cell?, hn0]; rfl
  obtain ⟨a, cap, rfl⟩ := hU.len
  have hp : ∀ W, Below (w.alloc (.cells #[.string s] 9)).heap.size (w.alloc (.cells #[.string s] 9)) W → ∀ x ∈ l, Calls Tryz.prog 84 (#[atV x] ++ #[.pointer (some ⟨w.heap.size, 0, none⟩)]) W fun e w' => e = .returned (.bool (isN s x)) ∧ Below W.heap.size W w' := by
    intro W hW x hx
    have hWs := hW.size
    exact findFn_any x s w.heap.size W (by omega) (cellK hW (by omega) hc0)
  have HP := Lib.hid hp
  have HS := Lib.hid hs0
  clear hp hs0
  go_enter Tryz.func62, Tryz.ntmps62
  go_wp2_with fail
  refine (indexFuncA_any l (isN s) _ 84 #[.pointer (some ⟨w.heap.size, 0, none⟩)] (enters_of Tryz.func84 (by kernel_rfl) rfl) hl _ hU0 HP.out).mono ?_
  rintro e w2 ⟨rfl, hb2⟩
  go_wp2_with fail
  go_ret
  exact ⟨rfl, bs hb0 hb2⟩
set_option maxHeartbeats 1000000 in
set_option maxRecDepth 100000 in
theorem refFind10_any (l : List At) (u : Value) (s : ByteArray) (hl : l.length ≤ 1000000000000000) (w : World) (hU : Atts l u w) :
    Calls Tryz.prog 44 #[u, .string s] w fun e w' => e = .returned (.int .i64 (fi l (isN s))) ∧ w = w' := by
  obtain ⟨a, cap, rfl⟩ := hU.len
  go_enter Tryz.func44, Tryz.ntmps44
  go_wp2_with fail
  go_loop [5] (fun i => ∃ k : Nat, k ≤ l.length ∧ i = .int .i64 k ∧ Hid (∀ x ∈ l.take k, isN s x = false)) (fun i => l.length - (intOf i).toNat)
  case atStart => exact ⟨0, Nat.zero_le _, rfl, Lib.hid (by simp)⟩
  case round =>
    obtain ⟨k, hk, rfl, hA⟩ := hrel
    by_cases hlt : k < l.length
    · obtain ⟨b, o, cap', hv, _, hb, hc0, hc1⟩ := hU.at hlt
      cases hv
      have hT := Lib.hid (fun h => take_mem_snoc (P := fun x => isN s x = false) hlt hA.out h)
      have hH := Lib.hid (fun h => fi_hit hlt hA.out h)
      generalize l[k] = x at *
      by_cases h : x.n = s
      · have hN := Lib.hid (hH.out (show isN s x = true from decide_eq_true h))
        have hq := sTrue h
        clear h
        go_wp2_with fail
        go_ret
        exact ⟨ret_int hN.out.symm, rfl⟩
      · have hN := Lib.hid (hT.out (show isN s x = false from decide_eq_false h))
        have hq := sFalse h
        clear h
        go_wp2_with fail
        go_round
        case rel => exact ⟨k + 1, by omega, by go_num, hN⟩
        case measure => simp [intOf]; omega
    · obtain rfl : k = l.length := by omega
      have hN := Lib.hid (show fi l (isN s) = -1 from fi_none (by have := hA.out; rwa [List.take_of_length_le (Nat.le_refl _)] at this))
      go_wp2_with fail
      go_ret
      exact ⟨ret_int hN.out.symm, rfl⟩
/-- an attribute's value -/
def atO (l : List At) (s : ByteArray) : Option ByteArray := if 0 ≤ fi l (isN s) then (l[(fi l (isN s)).toNat]?).map (·.v) else none
theorem atO_none {l : List At} {s : ByteArray} (h : fi l (isN s) = -1) : atO l s = none := by unfold atO; rw [h]; rfl
theorem atO_some {l : List At} {s : ByteArray} {k : Nat} (hk : k < l.length) (h : fi l (isN s) = (k : Nat)) : atO l s = some l[k].v := by
  unfold atO
  rw [h, if_pos (by omega), Int.toNat_natCast, List.getElem?_eq_getElem hk]; rfl
theorem hasA_iff (l : List At) (s : ByteArray) : hasA l (isN s) = (atO l s).isSome := by
  unfold hasA
  rcases fi_cases l (isN s) with ⟨h, _⟩ | ⟨k, hk, h, _⟩
  · rw [atO_none h, h]; rfl
  · rw [atO_some hk h, h]; simp
/-- what is returned of an attribute: its value, and whether there is one -/
def atT (o : Option ByteArray) : Value := .tuple #[.string (o.getD ⟨#[]⟩), .bool o.isSome]
set_option maxHeartbeats 1000000 in
set_option maxRecDepth 100000 in
theorem refAttr14_any (l : List At) (u : Value) (s : ByteArray) (hl : l.length ≤ 1000000000000000) (w : World) (hU : Atts l u w) :
    Calls Tryz.prog 48 #[u, .string s] w fun e w' => e = .returned (atT (atO l s)) ∧ w = w' := by
  obtain ⟨a, cap, rfl⟩ := hU.len
  rcases fi_cases l (isN s) with ⟨h, _⟩ | ⟨k, hk, h, _⟩
  · have hR := Lib.hid (atO_none h)
    have HF := Lib.hid h
    clear h
    go_enter Tryz.func48, Tryz.ntmps48
    go_wp2_with fail
    refine (refFind10_any l _ s hl _ hU).mono ?_
    rintro e w' ⟨rfl, rfl⟩
    rw [HF.out]
    go_wp2_with fail
    go_ret2
    exact ⟨by rw [hR.out]; rfl, rfl⟩
  · have hR := Lib.hid (atO_some hk h)
    have HF := Lib.hid h
    obtain ⟨b, o, cap', hv, _, hb, hc0, hc1⟩ := hU.at hk
    cases hv
    clear h
    generalize l[k] = x at *
    have hk0 : (0 : Int) ≤ (k : Int) := by omega
    have hk1 : (k : Int) < (l.length : Int) := by omega
    have hk2 : decide ((k : Int) < 0) = false := by simp
    go_enter Tryz.func48, Tryz.ntmps48
    go_wp2_with fail
    refine (refFind10_any l _ s hl _ hU).mono ?_
    rintro e w' ⟨rfl, rfl⟩
    rw [HF.out]
    go_wp2_with fail
    go_ret2
    exact ⟨by rw [hR.out]; rfl, rfl⟩
set_option maxHeartbeats 1000000 in
set_option maxRecDepth 100000 in
theorem refHas15_any (x : Nd) (va vk : Value) (s : ByteArray) (hl : x.ats.length ≤ 1000000000000000) (w : World) (hU : Atts x.ats va w) :
    Calls Tryz.prog 74 #[NdV x va vk, .string s] w fun e w' => e = .returned (.bool (atO x.ats s).isSome) ∧ Below w.heap.size w w' := by
  unfold NdV
  have hb0 := (Below.refl w.heap.size w).alloc (Nat.le_refl _) (.cells #[.string x.nm, .string x.tx, va, .int .i64 x.pa, vk] 41)
  have hU0 := hU.kept hb0
  obtain ⟨a, cap, rfl⟩ := hU.len
  have hR := Lib.hid (show decide (0 ≤ fi x.ats (isN s)) = (atO x.ats s).isSome from hasA_iff x.ats s)
  go_enter Tryz.func74, Tryz.ntmps74
  go_wp2_with fail
  refine (refFind10_any x.ats _ s hl _ hU0).mono ?_
  rintro e w' ⟨rfl, rfl⟩
  generalize fi x.ats (isN s) = z at hR ⊢
  go_wp2_with fail
  go_ret
  exact ⟨ret_bool hR.out, hb0⟩
set_option maxHeartbeats 1000000 in
set_option maxRecDepth 100000 in
theorem hasFn_any (x : At) (s : ByteArray) (B : Nat) (w : World) (hB : B < w.heap.size) (hc : w.cell? ⟨B, 0, none⟩ = some (.string s)) :
    Calls Tryz.prog 87 #[atV x, .pointer (some ⟨B, 0, none⟩)] w fun e w' => e = .returned (.bool (isN s x)) ∧ Below w.heap.size w w' := by
  unfold atV
  have hb0 := (Below.refl w.heap.size w).alloc (Nat.le_refl _) (.cells #[.string x.n, .string x.v] 52)
  by_cases h : x.n = s
  · have hR := Lib.hid (show isN s x = true from decide_eq_true h)
    have hq := sTrue h
    clear h
    go_enter Tryz.func87, Tryz.ntmps87
    go_wp2_with fail
    go_ret
    exact ⟨ret_bool hR.out.symm, hb0⟩
  · have hR := Lib.hid (show isN s x = false from decide_eq_false h)
    have hq := sFalse h
    clear h
    go_enter Tryz.func87, Tryz.ntmps87
    go_wp2_with fail
    go_ret
    exact ⟨ret_bool hR.out.symm, hb0⟩
set_option maxHeartbeats 1000000 in
set_option maxRecDepth 100000 in
theorem ownerHas_any (x : Nd) (va vk : Value) (s : ByteArray) (hl : x.ats.length ≤ 1000000000000000) (w : World) (hU : Atts x.ats va w) :
    Calls Tryz.prog 66 #[NdV x va vk, .string s] w fun e w' => e = .returned (.bool (atO x.ats s).isSome) ∧ Below w.heap.size w w' := by
  unfold NdV
  have hba := (Below.refl w.heap.size w).alloc (Nat.le_refl _) (.cells #[.string x.nm, .string x.tx, va, .int .i64 x.pa, vk] 41)
  have hb0 := hba.alloc (by simp) (.cells #[.string s] 9)
  have hsa : (w.alloc (.cells #[.string x.nm, .string x.tx, va, .int .i64 x.pa, vk] 41)).heap.size = w.heap.size + 1 := by simp
  have hs0 : ((w.alloc (.cells #[.string x.nm, .string x.tx, va, .int .i64 x.pa, vk] 41)).alloc (.cells #[.string s] 9)).heap.size = w.heap.size + 1 + 1 := by simp
  have hn0 := Go.heap_alloc_new (w.alloc (.cells #[.string x.nm, .string x.tx, va, .int .i64 x.pa, vk] 41)) (.cells #[.string s] 9)
  rw [hsa] at hn0
  have hU0 := hU.kept hb0
  have hc0 : ((w.alloc (.cells #[.string x.nm, .string x.tx, va, .int .i64 x.pa, vk] 41)).alloc (.cells #[.string s] 9)).cell? ⟨w.heap.size + 1, 0, none⟩ = some (.string s) := by simp only [World.cell?, hn0]; rfl
  obtain ⟨a, cap, rfl⟩ := hU.len
  have hp : ∀ W, Below ((w.alloc (.cells #[.string x.nm, .string x.tx, .slice a x.ats.length cap, .int .i64 x.pa, vk] 41)).alloc (.cells #[.string s] 9)).heap.size ((w.alloc (.cells #[.string x.nm, .string x.tx, .slice a x.ats.length cap, .int .i64 x.pa, vk] 41)).alloc (.cells #[.string s] 9)) W → ∀ y ∈ x.ats, Calls Tryz.prog 87 (#[atV y] ++ #[.pointer (some ⟨w.heap.size + 1, 0, none⟩)]) W fun e w' => e = .returned (.bool (isN s y)) ∧ Below W.heap.size W w' := by
    intro W hW y hy
    have hWs := hW.size
    exact hasFn_any y s (w.heap.size + 1) W (by omega) (cellK hW (by omega) hc0)
  have hR := Lib.hid (hasA_iff x.ats s)
  have HP := Lib.hid hp
  clear hp hsa hs0 hn0 hc0
  go_enter Tryz.func66, Tryz.ntmps66
  go_wp2_with fail
  refine (containsFuncA_any x.ats (isN s) _ 87 #[.pointer (some ⟨w.heap.size + 1, 0, none⟩)] (enters_of Tryz.func87 (by kernel_rfl) rfl) hl _ hU0 HP.out).mono ?_
  rintro e w2 ⟨rfl, hb2⟩
  rw [hR.out]
  go_wp2_with fail
  go_ret
  exact ⟨rfl, bs hb0 hb2⟩
set_option maxHeartbeats 1000000 in
set_option maxRecDepth 100000 in
theorem attrFn_any (x : At) (s : ByteArray) (B : Nat) (w : World) (hB : B < w.heap.size) (hc : w.cell? ⟨B, 0, none⟩ = some (.string s)) :
    Calls Tryz.prog 58 #[atV x, .pointer (some ⟨B, 0, none⟩)] w fun e w' => e = .returned (.bool (isN s x)) ∧ Below w.heap.size w w' := by
  unfold atV
  have hb0 := (Below.refl w.heap.size w).alloc (Nat.le_refl _) (.cells #[.string x.n, .string x.v] 52)
  by_cases h : x.n = s
  · have hR := Lib.hid (show isN s x = true from decide_eq_true h)
    have hq := sTrue h
    clear h
    go_enter Tryz.func58, Tryz.ntmps58
    go_wp2_with fail
    go_ret
    exact ⟨ret_bool hR.out.symm, hb0⟩
  · have hR := Lib.hid (show isN s x = false from decide_eq_false h)
    have hq := sFalse h
    clear h
    go_enter Tryz.func58, Tryz.ntmps58
    go_wp2_with fail
    go_ret
    exact ⟨ret_bool hR.out.symm, hb0⟩
end Go.Proofs.YtafbghlldlconaaGreat

/-
  A STORE INTO A BLOCK OF ONE'S OWN, in a region and in a region that draws its order: the world behind it is a letter, of which one knows the block and Below.
-/
namespace Go.Proofs.YtafbghlldlconaaGreat
set_option linter.unusedVariables false
set_option linter.unusedSimpArgs false
open Go.RowKit

theorem below_setRow {B : Nat} (W : World) (g : Nat) (cs : Array Value) (hB : B ≤ g) : Below B W (W.setRow g cs) := by
  refine ⟨rfl, rfl, rfl, by simp [World.setRow], fun k hk => ?_⟩
  simp only [World.setRow, Array.getElem?_modify]
  rw [if_neg (by omega)]
theorem fresh_kept {W w' : World} {o : Obj} (hb : Below (W.alloc o).heap.size (W.alloc o) w') : w'.heap[W.heap.size]? = some o := by
  rw [hb.block _ (by simp), Go.heap_alloc_new]
theorem fresh_kept_d {W w' : World} {o : Obj} (hb : Below (W.alloc o).drew.heap.size (W.alloc o).drew w') : w'.heap[W.heap.size]? = some o := by
  have h : (W.alloc o).drew.heap[W.heap.size]? = some o := Go.heap_alloc_new W o
  rw [hb.block _ (Array.getElem?_eq_some_iff.1 h).1, h]
theorem run_store_at (W : World) (ty : TypeId) (g i : Nat) (v : Value) (old : Array Value) (t : TypeId) (hg : W.heap[g]? = some (.cells old t (0, 0)))
    (hsz : (Tryz.prog.info? ty).map (·.size) = some v.cells.size) (hle : i + v.cells.size ≤ old.size) (h1 : v.cells.all (·.oneCell') = true) :
    (storeVar ty ⟨g, i, none⟩ v).run Tryz.prog W = .ok () (W.setRow g (old.toList.take i ++ v.cells.toList ++ old.toList.drop (i + v.cells.toList.length)).toArray) := by
  have := run_storeCells_at (P := Tryz.prog) g i t v.cells.toList 0 old W hg (by simpa using hle) (fun u hu => (Array.all_eq_true_iff_forall_mem.1 h1) u (by simpa using hu))
  cases hq : Tryz.prog.info? ty with
  | none => simp [hq] at hsz
  | some z =>
    have hs : v.cells.size = z.size := by simp [hq] at hsz; omega
    simp only [Nat.add_zero] at this
    simp [storeVar, sizeOf, typeInfo, hq, hs, this]
theorem wp_store_at {W : World} {o : Oper} {a : Act} {K : Act → World → Prop} {Q : Exit → Act → World → Prop} (ty : TypeId) (x y : Operand) (ho : o.op = .store ty x y)
    (g i : Nat) (hx : a.eval x = .pointer (some ⟨g, i, none⟩)) (v : Value) (hy : a.eval y = v) (old new : Array Value) (t : TypeId) (hg : W.heap[g]? = some (.cells old t (0, 0)))
    (hsz : (Tryz.prog.info? ty).map (·.size) = some v.cells.size) (hle : i + v.cells.size ≤ old.size) (h1 : v.cells.all (·.oneCell') = true)
    (hnew : (old.toList.take i ++ v.cells.toList ++ old.toList.drop (i + v.cells.toList.length)).toArray = new) {B : Nat} (hB : B ≤ g)
    (h : ∀ w', w'.heap[g]? = some (.cells new t (0, 0)) → Below B W w' → K (a.put o.dst undef) w') : o.wp Tryz.prog a W K Q := by
  unfold Oper.wp execOp
  simp only [ho, hx, hy, Instr.storeAt, Instr.sureAddr, Sem.run_bind, Sem.run_pure, Result.andThen_ok, run_store_at W ty g i v old t hg hsz hle h1]
  rw [hnew]
  exact h _ (setRow_heap W g old new t (0, 0) hg) (below_setRow W g new hB)
theorem step_store_at {W : World} {ops : Array Oper} {o : Oper} {a : Act} {K : Act → World → Prop} {Q : Exit → Act → World → Prop} {E : Prop} (hgd : o.guard = none) (ty : TypeId) (x y : Operand) (ho : o.op = .store ty x y)
    (g i : Nat) (hx : a.eval x = .pointer (some ⟨g, i, none⟩)) (v : Value) (hy : a.eval y = v) (old new : Array Value) (t : TypeId) (hg : W.heap[g]? = some (.cells old t (0, 0)))
    (hsz : (Tryz.prog.info? ty).map (·.size) = some v.cells.size) (hle : i + v.cells.size ≤ old.size) (h1 : v.cells.all (·.oneCell') = true)
    (hnew : (old.toList.take i ++ v.cells.toList ++ old.toList.drop (i + v.cells.toList.length)).toArray = new) {B : Nat} (hB : B ≤ g)
    (h : ∀ w', w'.heap[g]? = some (.cells new t (0, 0)) → Below B W w' → K (a.put o.dst undef) w') : if Region.wanted o (yielded ops a.tmps) then o.wp Tryz.prog a W K Q else E := by
  have hw : Region.wanted o (yielded ops a.tmps) = true := by simp [Region.wanted, hgd]
  rw [if_pos hw]
  exact wp_store_at ty x y ho g i hx v hy old new t hg hsz hle h1 hnew hB h
theorem wpList_store_at {W : World} {ops : Array Oper} {rest : List Oper} {o : Oper} {a : Act} {Q : Exit → Act → World → Prop} (hgd : o.guard = none) (ty : TypeId) (x y : Operand) (ho : o.op = .store ty x y)
    (g i : Nat) (hx : a.eval x = .pointer (some ⟨g, i, none⟩)) (v : Value) (hy : a.eval y = v) (old new : Array Value) (t : TypeId) (hg : W.heap[g]? = some (.cells old t (0, 0)))
    (hsz : (Tryz.prog.info? ty).map (·.size) = some v.cells.size) (hle : i + v.cells.size ≤ old.size) (h1 : v.cells.all (·.oneCell') = true)
    (hnew : (old.toList.take i ++ v.cells.toList ++ old.toList.drop (i + v.cells.toList.length)).toArray = new) {B : Nat} (hB : B ≤ g)
    (h : ∀ w', w'.heap[g]? = some (.cells new t (0, 0)) → Below B W w' → wpList Tryz.prog ops Q rest (a.put o.dst undef) w') : wpList Tryz.prog ops Q (o :: rest) a W :=
  wpList_plain hgd fun _ hK => wp_store_at ty x y ho g i hx v hy old new t hg hsz hle h1 hnew hB fun w' h2 h3 => hK _ _ (h w' h2 h3)
/-- five cells of a block, each as the walk asks for it -/
theorem five_of {W : World} {g : Nat} {a b c d e : Value} {t : TypeId} (h : W.heap[g]? = some (.cells #[a, b, c, d, e] t (0, 0))) :
    W.cell? ⟨g, 0, none⟩ = some a ∧ W.cell? ⟨g, 1, none⟩ = some b ∧ W.cell? ⟨g, 2, none⟩ = some c ∧ W.cell? ⟨g, 3, none⟩ = some d ∧ W.cell? ⟨g, 4, none⟩ = some e ∧
    W.frozen? ⟨g, 0, none⟩ = false ∧ W.frozen? ⟨g, 1, none⟩ = false ∧ W.frozen? ⟨g, 2, none⟩ = false ∧ W.frozen? ⟨g, 3, none⟩ = false ∧ W.frozen? ⟨g, 4, none⟩ = false := by
  simp [World.cell?, World.frozen?, h]
theorem set5_below {B : Nat} (W : World) (g : Nat) (a b c d e : Value) (hB : B ≤ g) : Below B W (((((W.setCell ⟨g, 0, none⟩ a).setCell ⟨g, 1, none⟩ b).setCell ⟨g, 2, none⟩ c).setCell ⟨g, 3, none⟩ d).setCell ⟨g, 4, none⟩ e) :=
  (((((Below.refl B W).setCell (p := ⟨g, 0, none⟩) hB a).setCell (p := ⟨g, 1, none⟩) hB b).setCell (p := ⟨g, 2, none⟩) hB c).setCell (p := ⟨g, 3, none⟩) hB d).setCell (p := ⟨g, 4, none⟩) hB e
theorem setCell_heap {W : World} {g i : Nat} {cur : Array Value} {t : TypeId} (u : Value) (h : W.heap[g]? = some (.cells cur t (0, 0))) : (W.setCell ⟨g, i, none⟩ u).heap[g]? = some (.cells (cur.setIfInBounds i u) t (0, 0)) := by
  rw [setCell_eq_setRow W g i cur t (0, 0) u h]
  exact setRow_heap W g cur _ t (0, 0) h
theorem set5_heap {W : World} {g : Nat} {a0 b0 c0 d0 e0 : Value} {t : TypeId} (a b c d e : Value) (h : W.heap[g]? = some (.cells #[a0, b0, c0, d0, e0] t (0, 0))) :
    (((((W.setCell ⟨g, 0, none⟩ a).setCell ⟨g, 1, none⟩ b).setCell ⟨g, 2, none⟩ c).setCell ⟨g, 3, none⟩ d).setCell ⟨g, 4, none⟩ e).heap[g]? = some (.cells #[a, b, c, d, e] t (0, 0)) := by
  rw [setCell_heap e (setCell_heap d (setCell_heap c (setCell_heap b (setCell_heap a h))))]
  rfl
theorem below_re {B : Nat} (W : World) (o o' : Obj) (h : B ≤ W.heap.size) : Below B (W.alloc o) (W.alloc o') := by
  refine ⟨rfl, rfl, rfl, by simp, fun k hk => ?_⟩
  rw [Below.heap_alloc W o k (by omega), Below.heap_alloc W o' k (by omega)]
end Go.Proofs.YtafbghlldlconaaGreat

/-
  A NODE BY ITSELF: tree.one, ref10.alone: the walks.
-/
namespace Go.Proofs.YtafbghlldlconaaGreat
set_option linter.unusedVariables false
set_option linter.unusedSimpArgs false
open Go.RowKit PT

/-- is an attribute right, at its place? -/
def atB (l : List At) (i : Nat) : Bool := match l[i]? with
  | none => true
  | some a => nmB a.n.data.toList && (decide (a.v.size ≤ 4000) && decide (fi (l.take i) (isN a.n) = -1))
/-- may a node be, by itself? -/
def oneB (x : Nd) : Bool :=
  if x.nm = ⟨#[]⟩ then decide (x.ats.length = 0) && (decide (x.ks.length = 0) && decide (x.tx.size ≤ 4000))
  else nmB x.nm.data.toList && (decide (x.tx.size = 0) && (decide (x.ats.length ≤ 40) && (List.range x.ats.length).all (atB x.ats)))
theorem size0 {s : ByteArray} : s = ⟨#[]⟩ ↔ s.size = 0 := by
  constructor
  · rintro rfl; rfl
  · intro h
    apply ByteArray.ext
    exact Array.eq_empty_of_size_eq_zero h
theorem emp_yes {s : ByteArray} (h : s.size = 0) : (s.toList == []) = true := by rw [size0.2 h, ByteArray.toList_eq]; rfl
theorem emp_no {s : ByteArray} (h : s.size ≠ 0) : (s.toList == []) = false := by
  rw [beq_eq_false_iff_ne, ByteArray.toList_eq]
  intro e
  have := congrArg List.length e
  rw [size_list, List.length_nil] at this
  omega
theorem empt_no {s : ByteArray} (h : s.size ≠ 0) : s.toList.isEmpty = false := by
  rw [ByteArray.toList_eq]
  cases hl : s.data.toList with
  | nil => have := congrArg List.length hl; rw [size_list, List.length_nil] at this; omega
  | cons _ _ => rfl
theorem empt_yes {s : ByteArray} (h : s.size = 0) : s.toList.isEmpty = true := by rw [size0.2 h, ByteArray.toList_eq]; rfl
/-- the places of a row's cells, n cells each -/
def szAt (n : Nat) (l : List At) : Prop := l.length ≤ n ∧ ∀ a ∈ l, a.n.size ≤ 140737488351232 ∧ a.v.size ≤ 140737488351232
theorem take_world {Q : Exit → Act → World → Prop} {e : Exit} {a : Act} {W : World} (S : World → Prop) (h : S W) (k : S W → Q e a W) : Q e a W := k h
theorem oneS_kept {e c : Nat} {x0 x2 y0 y1 : Value} {w1 W W' : World}
    (h : W.cell? ⟨e, 0, none⟩ = some x0 ∧ W.cell? ⟨e, 2, none⟩ = some x2 ∧ W.cell? ⟨c, 0, none⟩ = some y0 ∧ W.cell? ⟨c, 1, none⟩ = some y1 ∧ e < w1.heap.size ∧ c < w1.heap.size ∧ Below w1.heap.size w1 W) (hb : Below W.heap.size W W') :
    W'.cell? ⟨e, 0, none⟩ = some x0 ∧ W'.cell? ⟨e, 2, none⟩ = some x2 ∧ W'.cell? ⟨c, 0, none⟩ = some y0 ∧ W'.cell? ⟨c, 1, none⟩ = some y1 ∧ e < w1.heap.size ∧ c < w1.heap.size ∧ Below w1.heap.size w1 W' := by
  obtain ⟨h0, h2, k0, k1, he, hc, hbe⟩ := h
  have hs := hbe.size
  exact ⟨cellK hb (by omega) h0, cellK hb (by omega) h2, cellK hb (by omega) k0, cellK hb (by omega) k1, he, hc, hbe.trans (hb.mono hs)⟩
theorem oneS_drew {e c : Nat} {x0 x2 y0 y1 : Value} {w1 W : World}
    (h : W.cell? ⟨e, 0, none⟩ = some x0 ∧ W.cell? ⟨e, 2, none⟩ = some x2 ∧ W.cell? ⟨c, 0, none⟩ = some y0 ∧ W.cell? ⟨c, 1, none⟩ = some y1 ∧ e < w1.heap.size ∧ c < w1.heap.size ∧ Below w1.heap.size w1 W) :
    W.drew.cell? ⟨e, 0, none⟩ = some x0 ∧ W.drew.cell? ⟨e, 2, none⟩ = some x2 ∧ W.drew.cell? ⟨c, 0, none⟩ = some y0 ∧ W.drew.cell? ⟨c, 1, none⟩ = some y1 ∧ e < w1.heap.size ∧ c < w1.heap.size ∧ Below w1.heap.size w1 W.drew := oneS_kept h ⟨rfl, rfl, rfl, Nat.le_refl _, fun _ _ => rfl⟩
set_option maxHeartbeats 4000000 in
set_option maxRecDepth 100000 in
theorem one_any (x : Nd) (va vk : Value) (hl : x.ats.length ≤ 1000000000000000) (hk : x.ks.length ≤ 1000000000000000000) (ht : x.tx.size ≤ 140737488351232) (w : World) (hU : Atts x.ats va w) (hV : Nums x.ks vk w) (hz : ∀ a ∈ x.ats, a.v.size ≤ 140737488351232) :
    Calls Tryz.prog 56 #[NdV x va vk] w fun e w' => e = .returned (.bool (oneB x)) ∧ Below w.heap.size w w' := by
  have hb0 := (Below.refl w.heap.size w).alloc (Nat.le_refl _) (.cells #[.string x.nm, .string x.tx, va, .int .i64 x.pa, vk] 41)
  have hn0 := Go.heap_alloc_new w (.cells #[.string x.nm, .string x.tx, va, .int .i64 x.pa, vk] 41)
  have hs0 : (w.alloc (.cells #[.string x.nm, .string x.tx, va, .int .i64 x.pa, vk] 41)).heap.size = w.heap.size + 1 := by simp
  have hU0 := hU.kept hb0
  obtain ⟨a, cap, rfl⟩ := hU.len
  obtain ⟨ka, kcap, rfl⟩ := hV.len
  unfold NdV
  have hO : oneB x = if x.nm = ⟨#[]⟩ then decide (x.ats.length = 0) && (decide (x.ks.length = 0) && decide (x.tx.size ≤ 4000)) else nmB x.nm.data.toList && (decide (x.tx.size = 0) && (decide (x.ats.length ≤ 40) && (List.range x.ats.length).all (atB x.ats))) := rfl
  by_cases h0 : x.nm.size = 0
  · have he := emp_yes h0
    have he2 := empt_yes h0
    rw [if_pos (size0.2 h0)] at hO
    have HO := Lib.hid hO
    clear hO
    by_cases c1 : x.ats.length = 0
    · by_cases c2 : x.ks.length = 0
      · by_cases c3 : x.tx.size ≤ 4000
        · have hR := Lib.hid (show oneB x = true by rw [HO.out, decide_eq_true c1, decide_eq_true c2, decide_eq_true c3]; rfl)
          have c3' : (x.tx.size : Int) ≤ 4000 := by omega
          rw [c1, c2] at hb0 ⊢
          clear h0 c1 c2
          go_enter Tryz.func56, Tryz.ntmps56
          go_wp2_with fail
          go_ret
          exact ⟨ret_bool hR.out.symm, hb0⟩
        · have hR := Lib.hid (show oneB x = false by rw [HO.out, decide_eq_true c1, decide_eq_true c2, decide_eq_false c3]; rfl)
          have c3' : decide ((x.tx.size : Int) ≤ 4000) = false := decide_eq_false (by omega)
          rw [c1, c2] at hb0 ⊢
          clear h0 c1 c2
          go_enter Tryz.func56, Tryz.ntmps56
          go_wp2_with fail
          go_ret
          exact ⟨ret_bool hR.out.symm, hb0⟩
      · have hR := Lib.hid (show oneB x = false by rw [HO.out, decide_eq_true c1, decide_eq_false c2]; rfl)
        have c2' : ((x.ks.length : Int) == 0) = false := intNe (by omega)
        rw [c1] at hb0 ⊢
        clear h0 c1
        go_enter Tryz.func56, Tryz.ntmps56
        go_wp2_with fail
        go_ret
        exact ⟨ret_bool hR.out.symm, hb0⟩
    · have hR := Lib.hid (show oneB x = false by rw [HO.out, decide_eq_false c1]; rfl)
      have c1' : ((x.ats.length : Int) == 0) = false := intNe (by omega)
      clear h0
      go_enter Tryz.func56, Tryz.ntmps56
      go_wp2_with fail
      go_ret
      exact ⟨ret_bool hR.out.symm, hb0⟩
  · have he := emp_no h0
    have he2 := empt_no h0
    rw [if_neg (fun e => h0 (size0.1 e))] at hO
    have HO := Lib.hid hO
    clear hO h0
    cases hnm : nmB x.nm.data.toList
    · have hR := Lib.hid (show oneB x = false by rw [HO.out, hnm]; rfl)
      have HN := Lib.hid hnm
      clear hnm
      go_enter Tryz.func56, Tryz.ntmps56
      go_upto_region 1 with fail
      generalize World.alloc _ _ = W0 at hb0 hn0 hU0 hs0 ⊢
      obtain ⟨x0, x1, x2, x3, x4, f0, f1, f2, f3, f4⟩ := five_of hn0
      go_wp2_with fail
      refine (named_any x.nm _).mono ?_
      rintro e w' ⟨rfl, rfl⟩
      rw [HN.out]
      go_wp2_with fail
      go_ret
      exact ⟨ret_bool hR.out.symm, hb0⟩
    · have HN := Lib.hid hnm
      by_cases d1 : x.tx.size = 0
      · have de := emp_yes d1
        have de2 := empt_yes d1
        by_cases d2 : x.ats.length ≤ 40
        · have HO2 := Lib.hid (show oneB x = (List.range x.ats.length).all (atB x.ats) by rw [HO.out, hnm, decide_eq_true d1, decide_eq_true d2]; rfl)
          have d2' : decide ((40 : Int) < (x.ats.length : Int)) = false := decide_eq_false (by omega)
          have d1' : (x.tx.toList != []) = false := by rw [bne, de]; rfl
          clear hnm d1 HO
          go_enter Tryz.func56, Tryz.ntmps56
          go_upto_region 1 with fail
          generalize World.alloc _ _ = W0 at hb0 hn0 hU0 hs0 ⊢
          obtain ⟨x0, x1, x2, x3, x4, f0, f1, f2, f3, f4⟩ := five_of hn0
          have hx0 : w.heap.size < W0.heap.size := by omega
          clear hs0
          go_wp2_with fail
          refine (named_any x.nm _).mono ?_
          rintro e w' ⟨rfl, rfl⟩
          rw [HN.out]
          go_wp2_with fail
          go_loopw [42] (fun i wr => ∃ k : Nat, k ≤ x.ats.length ∧ i = .int .i64 k ∧ Hid (∀ j, j < k → atB x.ats j = true) ∧ Below W0.heap.size W0 wr) (fun i _ => x.ats.length - (intOf i).toNat)
          case atStart => exact ⟨0, Nat.zero_le _, rfl, Lib.hid (fun j hj => by omega), Below.refl _ _⟩
          case round =>
            obtain ⟨k, hk', rfl, hA, hbel⟩ := hrel
            have hsz := hbel.size
            by_cases hlt : k < x.ats.length
            · obtain ⟨b, o, cap', hv, hcap, hb, hc0, hc1⟩ := (hU0.kept hbel).at hlt
              cases hv
              have hy := Lib.hid (show atB x.ats k = (nmB x.ats[k].n.data.toList && (decide (x.ats[k].v.size ≤ 4000) && decide (fi (x.ats.take k) (isN x.ats[k].n) = -1))) by unfold atB; rw [List.getElem?_eq_getElem hlt])
              have hTk := ((hU0.kept hbel).take (i := k) hlt)
              have hvz := hz _ (List.getElem_mem hlt)
              have hF := Lib.hid (fun (h : atB x.ats k = false) => show oneB x = false from HO2.out.trans (by
                rw [List.all_eq_false]
                exact ⟨k, List.mem_range.2 hlt, by rw [h]; exact Bool.false_ne_true⟩))
              have hN := Lib.hid (fun (h : atB x.ats k = true) => show ∀ j, j < k + 1 → atB x.ats j = true from fun j hj => by
                by_cases e : j = k
                · rw [e]; exact h
                · exact hA.out j (by omega))
              generalize x.ats[k] = y at *
              have q0 := cellK hbel hx0 x0
              have q2 := cellK hbel hx0 x2
              have hn1 := Go.heap_alloc_new wr (.cells #[.string y.n, .string y.v] 52)
              have hba := (Below.refl wr.heap.size wr).alloc (Nat.le_refl _) (.cells #[.string y.n, .string y.v] 52)
              have hs1 : (wr.alloc (.cells #[.string y.n, .string y.v] 52)).heap.size = wr.heap.size + 1 := by simp
              have hT1 := hTk.kept hba
              have hbel1 := hbel.trans (hba.mono hsz)
              have p0 := cellK hba (by omega) q0
              have p2 := cellK hba (by omega) q2
              have hk0 : (0 : Int) ≤ (k : Int) := by omega
              have hk1 : (k : Int) ≤ (x.ats.length : Int) := by omega
              have hk2 : (k : Int) ≤ (cap : Int) := by omega
              go_upto_region 8 with fail
              generalize World.alloc _ _ = W1 at hn1 hba hs1 hT1 hbel1 p0 p2 ⊢
              have p3 : W1.cell? ⟨wr.heap.size, 0, none⟩ = some (.string y.n) := by simp [World.cell?, hn1]
              have p4 : W1.cell? ⟨wr.heap.size, 1, none⟩ = some (.string y.v) := by simp [World.cell?, hn1]
              have hbw := hb0.trans (hbel1.mono (by omega))
              have hw1 : w.heap.size < W1.heap.size := by omega
              have hw2 : wr.heap.size < W1.heap.size := by omega
              have hbel1s := hbel1.size
              clear hs1 hn1 q0 q2 hc0 hc1 hTk hba hbel
              cases hnn : nmB y.n.data.toList
              · have hR := Lib.hid (hF.out (by rw [hy.out, hnn]; rfl))
                have HNN := Lib.hid hnn
                clear hnn
                first | go_quiet ((go_at_call 83; exact Calls.quiet_of_same ((named_any y.n _).mono fun _ _ h => ⟨h.1.trans (by rw [HNN.out]), h.2.symm⟩))) | fail
                go_wp2_with fail
                go_ret
                exact ⟨ret_bool hR.out.symm, hbw.trans ((below_draws W1 _).mono (by omega))⟩
              · have HNN := Lib.hid hnn
                by_cases h4 : y.v.size ≤ 4000
                · have h4' : decide ((4000 : Int) < (y.v.size : Int)) = false := decide_eq_false (by omega)
                  have hS1 := And.intro p0 (And.intro p2 (And.intro p3 (And.intro p4 (And.intro hw1 (And.intro hw2 (Below.refl W1.heap.size W1))))))
                  have hfc := fi_cases (x.ats.take k) (isN y.n)
                  have HFI := Lib.hid (Eq.refl (fi (x.ats.take k) (isN y.n)))
                  rcases hfc with ⟨hfi, _⟩ | ⟨j, _, hfi, _⟩
                  · have hN2 := Lib.hid (hN.out (by rw [hy.out, hnn, decide_eq_true h4, decide_eq_true hfi]; rfl))
                    have HF := Lib.hid hfi
                    clear hfi hnn h4
                    go_region_held3 (fun W => W.cell? ⟨w.heap.size, 0, none⟩ = some (.string x.nm) ∧ W.cell? ⟨w.heap.size, 2, none⟩ = some (.slice (some ⟨b, o, none⟩) x.ats.length cap) ∧ W.cell? ⟨wr.heap.size, 0, none⟩ = some (.string y.n) ∧ W.cell? ⟨wr.heap.size, 1, none⟩ = some (.string y.v) ∧ w.heap.size < W1.heap.size ∧ wr.heap.size < W1.heap.size ∧ Below W1.heap.size W1 W) (with_reducible first | assumption | exact oneS_drew (by assumption) | exact oneS_kept (by assumption) (by assumption)) ((first
                      | (go_at_call 83; (with_reducible refine (named_any y.n _).mono ?_); rintro e w' ⟨rfl, rfl⟩; rw [HNN.out])
                      | (go_at_call 62; refine (find_at (x.ats.take k) _ y.n (by rw [List.length_take]; omega) _ (hT1.kept (by assumption : _ ∧ _ ∧ _ ∧ _ ∧ _ ∧ _ ∧ _).2.2.2.2.2.2)).mono ?_; rintro e w5 ⟨rfl, hb5⟩; rw [HF.out])))
                    refine take_world (fun W => W.cell? ⟨w.heap.size, 0, none⟩ = some (.string x.nm) ∧ W.cell? ⟨w.heap.size, 2, none⟩ = some (.slice (some ⟨b, o, none⟩) x.ats.length cap) ∧ W.cell? ⟨wr.heap.size, 0, none⟩ = some (.string y.n) ∧ W.cell? ⟨wr.heap.size, 1, none⟩ = some (.string y.v) ∧ w.heap.size < W1.heap.size ∧ wr.heap.size < W1.heap.size ∧ Below W1.heap.size W1 W) (by assumption) ?_
                    rintro ⟨_, _, _, _, _, _, hb9⟩
                    go_wp2_with fail
                    go_roundw
                    case rel => exact ⟨k + 1, by omega, by go_num, hN2, hbel1.trans (hb9.mono hbel1s)⟩
                    case measure => simp [intOf]; omega
                  · have hR := Lib.hid (hF.out (by rw [hy.out, decide_eq_false (show ¬ fi (x.ats.take k) (isN y.n) = -1 by rw [hfi]; omega)]; simp))
                    have HF := Lib.hid hfi
                    clear hfi hnn h4
                    go_region_held3 (fun W => W.cell? ⟨w.heap.size, 0, none⟩ = some (.string x.nm) ∧ W.cell? ⟨w.heap.size, 2, none⟩ = some (.slice (some ⟨b, o, none⟩) x.ats.length cap) ∧ W.cell? ⟨wr.heap.size, 0, none⟩ = some (.string y.n) ∧ W.cell? ⟨wr.heap.size, 1, none⟩ = some (.string y.v) ∧ w.heap.size < W1.heap.size ∧ wr.heap.size < W1.heap.size ∧ Below W1.heap.size W1 W) (with_reducible first | assumption | exact oneS_drew (by assumption) | exact oneS_kept (by assumption) (by assumption)) ((first
                      | (go_at_call 83; (with_reducible refine (named_any y.n _).mono ?_); rintro e w' ⟨rfl, rfl⟩; rw [HNN.out])
                      | (go_at_call 62; refine (find_at (x.ats.take k) _ y.n (by rw [List.length_take]; omega) _ (hT1.kept (by assumption : _ ∧ _ ∧ _ ∧ _ ∧ _ ∧ _ ∧ _).2.2.2.2.2.2)).mono ?_; rintro e w5 ⟨rfl, hb5⟩; rw [HF.out])))
                    refine take_world (fun W => W.cell? ⟨w.heap.size, 0, none⟩ = some (.string x.nm) ∧ W.cell? ⟨w.heap.size, 2, none⟩ = some (.slice (some ⟨b, o, none⟩) x.ats.length cap) ∧ W.cell? ⟨wr.heap.size, 0, none⟩ = some (.string y.n) ∧ W.cell? ⟨wr.heap.size, 1, none⟩ = some (.string y.v) ∧ w.heap.size < W1.heap.size ∧ wr.heap.size < W1.heap.size ∧ Below W1.heap.size W1 W) (by assumption) ?_
                    rintro ⟨_, _, _, _, _, _, hb9⟩
                    go_wp2_with fail
                    go_ret
                    exact ⟨ret_bool hR.out.symm, hbw.trans (hb9.mono (by omega))⟩
                · have h4' : (4000 : Int) < (y.v.size : Int) := by omega
                  have hR := Lib.hid (hF.out (by rw [hy.out, decide_eq_false h4]; simp))
                  clear hnn h4
                  first | go_quiet ((go_at_call 83; exact Calls.quiet_of_same ((named_any y.n _).mono fun _ _ h => ⟨h.1.trans (by rw [HNN.out]), h.2.symm⟩))) | fail
                  go_wp2_with fail
                  go_ret
                  exact ⟨ret_bool hR.out.symm, hbw.trans ((below_draws W1 _).mono (by omega))⟩
            · obtain rfl : k = x.ats.length := by omega
              have hR := Lib.hid (show oneB x = true from HO2.out.trans (List.all_eq_true.2 fun j hj => hA.out j (List.mem_range.1 hj)))
              go_wp2_with fail
              go_ret
              exact ⟨ret_bool hR.out.symm, hb0.trans (hbel.mono (by omega))⟩
        · have hR := Lib.hid (show oneB x = false by rw [HO.out, hnm, decide_eq_true d1, decide_eq_false d2]; rfl)
          have d2' : (40 : Int) < (x.ats.length : Int) := by omega
          have d1' : (x.tx.toList != []) = false := by rw [bne, de]; rfl
          clear hnm d1
          go_enter Tryz.func56, Tryz.ntmps56
          go_upto_region 1 with fail
          generalize World.alloc _ _ = W0 at hb0 hn0 hU0 hs0 ⊢
          obtain ⟨x0, x1, x2, x3, x4, f0, f1, f2, f3, f4⟩ := five_of hn0
          go_wp2_with fail
          refine (named_any x.nm _).mono ?_
          rintro e w' ⟨rfl, rfl⟩
          rw [HN.out]
          go_wp2_with fail
          go_ret
          exact ⟨ret_bool hR.out.symm, hb0⟩
      · have hR := Lib.hid (show oneB x = false by rw [HO.out, hnm, decide_eq_false d1]; rfl)
        have de := emp_no d1
        have de2 := empt_no d1
        have d1' : (x.tx.toList != []) = true := by rw [bne, de]; rfl
        clear hnm
        go_enter Tryz.func56, Tryz.ntmps56
        go_upto_region 1 with fail
        generalize World.alloc _ _ = W0 at hb0 hn0 hU0 hs0 ⊢
        obtain ⟨x0, x1, x2, x3, x4, f0, f1, f2, f3, f4⟩ := five_of hn0
        go_wp2_with fail
        refine (named_any x.nm _).mono ?_
        rintro e w' ⟨rfl, rfl⟩
        rw [HN.out]
        go_wp2_with fail
        go_ret
        exact ⟨ret_bool hR.out.symm, hb0⟩
end Go.Proofs.YtafbghlldlconaaGreat

/-
  RIGHT DOCUMENTS: plain laws.
-/
namespace Go.Proofs.YtafbghlldlconaaGreat
set_option linter.unusedVariables false
set_option linter.unusedSimpArgs false
open Go.RowKit PT

/-- a node's parent -/
def paOf (l : List Nd) (i : Int) : Int := match l[i.toNat]? with
  | some x => x.pa
  | none => -1
/-- its children -/
def ksOf (l : List Nd) (i : Int) : List Int := match l[i.toNat]? with
  | some x => x.ks
  | none => []
/-- so many steps upward; below 0 one stays -/
def upN (l : List Nd) : Nat → Int → Int
  | 0, i => i
  | n + 1, i => if i < 0 then i else upN l n (paOf l i)
theorem upN_neg (l : List Nd) {i : Int} (h : i < 0) : ∀ n, upN l n i = i
  | 0 => rfl
  | n + 1 => if_pos h
theorem upN_step (l : List Nd) {i : Int} (h : 0 ≤ i) (n : Nat) : upN l (n + 1) i = upN l n (paOf l i) := if_neg (by omega)
theorem paOf_at {l : List Nd} {k : Nat} (hk : k < l.length) : paOf l k = l[k].pa := by
  unfold paOf; rw [Int.toNat_natCast, List.getElem?_eq_getElem hk]
theorem ksOf_at {l : List Nd} {k : Nat} (hk : k < l.length) : ksOf l k = l[k].ks := by
  unfold ksOf; rw [Int.toNat_natCast, List.getElem?_eq_getElem hk]
/-- a right document -/
structure RightP (l : List Nd) : Prop where
  pos : 0 < l.length
  max : l.length ≤ 400
  top : ∀ x, l[0]? = some x → x.nm.size ≠ 0 ∧ x.pa = -1
  node : ∀ (i : Nat) x, l[i]? = some x → oneB x = true ∧ -1 ≤ x.pa ∧ x.pa < l.length
  kids : ∀ (i : Nat) x, l[i]? = some x → ∀ c ∈ x.ks, 0 ≤ c ∧ c < l.length ∧ paOf l c = i
  once : ∀ (i : Nat) x, l[i]? = some x → 0 ≤ x.pa → (ksOf l x.pa).count (i : Int) = 1
  climb : ∀ i : Nat, i < l.length → upN l (l.length + 1) i < 0
noncomputable def rightB (l : List Nd) : Bool := @decide (RightP l) (Classical.propDecidable _)
theorem rightB_iff (l : List Nd) : rightB l = true ↔ RightP l := by
  unfold rightB
  exact @decide_eq_true_iff (RightP l) (Classical.propDecidable _)
theorem rightB_yes {l : List Nd} (h : RightP l) : rightB l = true := (rightB_iff l).2 h
theorem rightB_no {l : List Nd} (h : ¬ RightP l) : rightB l = false := by
  cases e : rightB l
  · rfl
  · exact absurd ((rightB_iff l).1 e) h

/-! sums -/
def S : Nat → (Nat → Nat) → Nat
  | 0, _ => 0
  | n + 1, f => S n f + f n
theorem S_congr {f g : Nat → Nat} : ∀ {n : Nat}, (∀ i, i < n → f i = g i) → S n f = S n g
  | 0, _ => rfl
  | n + 1, h => by
    show S n f + f n = S n g + g n
    rw [S_congr (fun i hi => h i (by omega)), h n (by omega)]
theorem S_add (f g : Nat → Nat) : ∀ n, S n (fun i => f i + g i) = S n f + S n g
  | 0 => rfl
  | n + 1 => by
    show S n (fun i => f i + g i) + (f n + g n) = (S n f + f n) + (S n g + g n)
    rw [S_add f g n]; omega
theorem S_zero : ∀ n, S n (fun _ => 0) = 0
  | 0 => rfl
  | n + 1 => S_zero n
theorem S_swap (f : Nat → Nat → Nat) : ∀ n m, S n (fun i => S m (f i)) = S m (fun j => S n (fun i => f i j))
  | 0, m => (S_zero m).symm
  | n + 1, m => by
    show S n (fun i => S m (f i)) + S m (f n) = S m (fun j => S n (fun i => f i j) + f n j)
    rw [S_swap f n m, S_add]
theorem S_le {f g : Nat → Nat} : ∀ {n : Nat}, (∀ i, i < n → f i ≤ g i) → S n f ≤ S n g
  | 0, _ => Nat.le_refl _
  | n + 1, h => by
    have := S_le (f := f) (g := g) (n := n) (fun i hi => h i (by omega))
    have := h n (by omega)
    show S n f + f n ≤ S n g + g n
    omega
theorem S_eq {f g : Nat → Nat} : ∀ {n : Nat}, (∀ i, i < n → f i ≤ g i) → S n f = S n g → ∀ i, i < n → f i = g i
  | 0, _, _, i, hi => by omega
  | n + 1, h, e, i, hi => by
    have h1 := S_le (f := f) (g := g) (n := n) (fun i hi => h i (by omega))
    have h2 := h n (by omega)
    have e' : S n f + f n = S n g + g n := e
    by_cases hn : i = n
    · subst hn; omega
    · exact S_eq (n := n) (fun i hi => h i (by omega)) (by omega) i (by omega)
theorem S_one (c : Int) : ∀ n : Nat, 0 ≤ c → S n (fun i => if (i : Int) = c then 1 else 0) = if c < (n : Int) then 1 else 0
  | 0, h => by rw [if_neg (by omega)]; rfl
  | n + 1, h => by
    show S n (fun i => if (i : Int) = c then 1 else 0) + (if (n : Int) = c then 1 else 0) = if c < ((n + 1 : Nat) : Int) then 1 else 0
    rw [S_one c n h]
    by_cases e : (n : Int) = c
    · rw [if_neg (by omega), if_pos e, if_pos (by omega)]
    · rw [if_neg e]
      by_cases e2 : c < (n : Int)
      · rw [if_pos e2, if_pos (by omega)]
      · rw [if_neg e2, if_neg (by omega)]
theorem len_S (n : Nat) : ∀ (ks : List Int), (∀ c ∈ ks, 0 ≤ c ∧ c < (n : Int)) → ks.length = S n (fun i => ks.count (i : Int))
  | [], _ => by
    show 0 = S n (fun _ => 0)
    rw [S_zero]
  | c :: t, h => by
    have hc := h c (List.mem_cons_self ..)
    rw [S_congr (g := fun i => t.count (i : Int) + (if (i : Int) = c then 1 else 0)) (fun i _ => by
      rw [List.count_cons]
      by_cases e : (i : Int) = c
      · simp [e]
      · rw [if_neg e, if_neg (by simpa using fun x => e x.symm)]), S_add, ← len_S n t (fun x hx => h x (List.mem_cons_of_mem _ hx)), S_one c n hc.1, if_pos hc.2]
    rfl
/-- so many nodes have a parent -/
def paS (l : List Nd) (n : Nat) : Nat := S n (fun i => if 0 ≤ paOf l i then 1 else 0)
/-- so many children do they have -/
def ksS (l : List Nd) (n : Nat) : Nat := S n (fun i => (ksOf l i).length)
/-- children of all nodes, told by their parents -/
theorem ksS_eq (l : List Nd) (hk : ∀ (i : Nat) x, l[i]? = some x → ∀ c ∈ x.ks, 0 ≤ c ∧ c < l.length ∧ paOf l c = i) (hp : ∀ (i : Nat) x, l[i]? = some x → x.pa < l.length) :
    ksS l l.length = S l.length (fun c => if 0 ≤ paOf l c then (ksOf l (paOf l c)).count (c : Int) else 0) := by
  unfold ksS
  rw [S_congr (g := fun i => S l.length (fun c => (ksOf l i).count (c : Int))) (fun i hi => by
    rw [ksOf_at hi]
    exact len_S _ _ (fun c hc => ⟨(hk i _ (List.getElem?_eq_getElem hi) c hc).1, (hk i _ (List.getElem?_eq_getElem hi) c hc).2.1⟩)), S_swap]
  refine S_congr fun c hc => ?_
  have hz : ∀ i, i < l.length → (i : Int) ≠ paOf l c → (ksOf l i).count (c : Int) = 0 := fun i hi hne => by
    rw [List.count_eq_zero, ksOf_at hi]
    exact fun hm => hne (hk i _ (List.getElem?_eq_getElem hi) c hm).2.2.symm
  by_cases h0 : 0 ≤ paOf l c
  · rw [if_pos h0]
    have hlt : paOf l c < l.length := by rw [paOf_at hc]; exact hp c _ (List.getElem?_eq_getElem hc)
    obtain ⟨p, hpp⟩ := Int.eq_ofNat_of_zero_le h0
    rw [S_congr (g := fun i => (if (i : Int) = paOf l c then 1 else 0) * (ksOf l (paOf l c)).count (c : Int)) (fun i hi => by
      by_cases e : (i : Int) = paOf l c
      · rw [if_pos e, e, Nat.one_mul]
      · rw [if_neg e, hz i hi e, Nat.zero_mul])]
    have hm : ∀ (k : Nat) (f : Nat → Nat) (n : Nat), S n (fun i => f i * k) = S n f * k := fun k f n => by
      induction n with
      | zero => show 0 = 0 * k; rw [Nat.zero_mul]
      | succ n ih =>
        show S n (fun i => f i * k) + f n * k = (S n f + f n) * k
        rw [ih, Nat.add_mul]
    rw [hm, S_one _ _ h0, if_pos hlt, Nat.one_mul]
  · rw [if_neg h0, S_congr (g := fun _ => 0) (fun i hi => hz i hi (by omega)), S_zero]
/-- the program's way: no child twice, and as many children as nodes with a parent -/
theorem once_iff (l : List Nd) (hk : ∀ (i : Nat) x, l[i]? = some x → ∀ c ∈ x.ks, 0 ≤ c ∧ c < l.length ∧ paOf l c = i) (hp : ∀ (i : Nat) x, l[i]? = some x → x.pa < l.length) :
    (∀ (i : Nat) x, l[i]? = some x → 0 ≤ x.pa → (ksOf l x.pa).count (i : Int) = 1) ↔ (∀ (i : Nat) x, l[i]? = some x → ∀ c : Nat, x.ks.count (c : Int) ≤ 1) ∧ paS l l.length = ksS l l.length := by
  rw [ksS_eq l hk hp]
  constructor
  · intro h
    constructor
    · intro i x hx c
      by_cases hm : (c : Int) ∈ x.ks
      · obtain ⟨h1, h2, h3⟩ := hk i x hx c hm
        have hc : c < l.length := by omega
        have hi : i < l.length := (List.getElem?_eq_some_iff.1 hx).1
        rw [paOf_at hc] at h3
        have := h c _ (List.getElem?_eq_getElem hc) (by omega)
        rw [h3] at this
        have hke : ksOf l i = x.ks := by unfold ksOf; rw [Int.toNat_natCast, hx]
        rw [hke] at this
        omega
      · rw [List.count_eq_zero.2 hm]; omega
    · refine S_congr fun c hc => ?_
      by_cases h0 : 0 ≤ paOf l c
      · rw [if_pos h0, if_pos h0, paOf_at hc]
        rw [paOf_at hc] at h0
        exact (h c _ (List.getElem?_eq_getElem hc) h0).symm
      · rw [if_neg h0, if_neg h0]
  · rintro ⟨h, he⟩ i x hx h0
    have hi : i < l.length := (List.getElem?_eq_some_iff.1 hx).1
    have hpa : paOf l i = x.pa := by unfold paOf; rw [Int.toNat_natCast, hx]
    have hle : ∀ c, c < l.length → (if 0 ≤ paOf l c then (ksOf l (paOf l c)).count (c : Int) else 0) ≤ if 0 ≤ paOf l c then 1 else 0 := fun c hc => by
      by_cases h1 : 0 ≤ paOf l c
      · rw [if_pos h1, if_pos h1]
        have hlt : paOf l c < l.length := by rw [paOf_at hc]; exact hp c _ (List.getElem?_eq_getElem hc)
        obtain ⟨p, hpp⟩ := Int.eq_ofNat_of_zero_le h1
        have hpl : p < l.length := by omega
        rw [hpp, ksOf_at hpl]
        exact h p _ (List.getElem?_eq_getElem hpl) c
      · rw [if_neg h1, if_neg h1]; omega
    have := S_eq hle he.symm i hi
    rw [if_pos (by omega), if_pos (by omega), hpa] at this
    exact this
end Go.Proofs.YtafbghlldlconaaGreat

/-
  GOING UP IN A RIGHT DOCUMENT: plain laws.
-/
namespace Go.Proofs.YtafbghlldlconaaGreat
set_option linter.unusedVariables false
set_option linter.unusedSimpArgs false
open Go.RowKit PT

noncomputable def hasB (l : List Nd) (id : Int) : Bool := decide (0 ≤ id) && (decide (id < l.length) && rightB l)
/-- from a node upward: the first answer -/
def climbF {β : Type} (l : List Nd) (f : Int → Option β) (d : β) : Nat → Int → β
  | 0, _ => d
  | n + 1, k => if k < 0 then d else match f k with
    | some b => b
    | none => climbF l f d n (paOf l k)
def cl {β : Type} (l : List Nd) (f : Int → Option β) (d : β) (k : Int) : β := climbF l f d (l.length + 1) k
def depF (l : List Nd) : Nat → Int → Nat
  | 0, _ => 0
  | n + 1, k => if k < 0 then 0 else depF l n (paOf l k) + 1
/-- so many steps lead out of it -/
def dep (l : List Nd) (k : Int) : Nat := depF l (l.length + 1) k
theorem climbF_neg {β : Type} (l : List Nd) (f : Int → Option β) (d : β) {k : Int} (h : k < 0) : ∀ n, climbF l f d n k = d
  | 0 => rfl
  | n + 1 => if_pos h
theorem climbF_stab {β : Type} (l : List Nd) (f : Int → Option β) (d : β) : ∀ (n : Nat) (k : Int), upN l n k < 0 → climbF l f d (n + 1) k = climbF l f d n k
  | 0, k, h => by
    have h' : k < 0 := by unfold upN at h; exact h
    rw [climbF_neg l f d h', climbF_neg l f d h']
  | n + 1, k, h => by
    by_cases hk : k < 0
    · rw [climbF_neg l f d hk, climbF_neg l f d hk]
    · rw [upN_step l (by omega)] at h
      have ih := climbF_stab l f d n (paOf l k) h
      show (if k < 0 then d else match f k with | some b => b | none => climbF l f d (n + 1) (paOf l k)) = (if k < 0 then d else match f k with | some b => b | none => climbF l f d n (paOf l k))
      rw [ih]
theorem depF_neg (l : List Nd) {k : Int} (h : k < 0) : ∀ n, depF l n k = 0
  | 0 => rfl
  | n + 1 => if_pos h
theorem depF_stab (l : List Nd) : ∀ (n : Nat) (k : Int), upN l n k < 0 → depF l (n + 1) k = depF l n k
  | 0, k, h => by
    have h' : k < 0 := by unfold upN at h; exact h
    rw [depF_neg l h', depF_neg l h']
  | n + 1, k, h => by
    by_cases hk : k < 0
    · rw [depF_neg l hk, depF_neg l hk]
    · rw [upN_step l (by omega)] at h
      have ih := depF_stab l n (paOf l k) h
      show (if k < 0 then 0 else depF l (n + 1) (paOf l k) + 1) = (if k < 0 then 0 else depF l n (paOf l k) + 1)
      rw [ih]
theorem cl_neg {β : Type} (l : List Nd) (f : Int → Option β) (d : β) {k : Int} (h : k < 0) : cl l f d k = d := climbF_neg l f d h _
theorem RightP.out {l : List Nd} (h : RightP l) {k : Int} (h0 : 0 ≤ k) (h1 : k < l.length) : upN l l.length (paOf l k) < 0 := by
  obtain ⟨q, rfl⟩ := Int.eq_ofNat_of_zero_le h0
  have := h.climb q (by omega)
  rwa [upN_step l h0] at this
theorem cl_step {β : Type} {l : List Nd} (h : RightP l) (f : Int → Option β) (d : β) {k : Int} (h0 : 0 ≤ k) (h1 : k < l.length) : cl l f d k = match f k with
    | some b => b
    | none => cl l f d (paOf l k) := by
  have hs := climbF_stab l f d l.length (paOf l k) (h.out h0 h1)
  show (if k < 0 then d else match f k with | some b => b | none => climbF l f d l.length (paOf l k)) = match f k with | some b => b | none => climbF l f d (l.length + 1) (paOf l k)
  rw [if_neg (by omega), hs]
theorem cl_hit {β : Type} {l : List Nd} (h : RightP l) (f : Int → Option β) (d : β) {k : Int} (h0 : 0 ≤ k) (h1 : k < l.length) {b : β} (hf : f k = some b) : cl l f d k = b := by rw [cl_step h f d h0 h1, hf]
theorem cl_go {β : Type} {l : List Nd} (h : RightP l) (f : Int → Option β) (d : β) {k : Int} (h0 : 0 ≤ k) (h1 : k < l.length) (hf : f k = none) : cl l f d k = cl l f d (paOf l k) := by rw [cl_step h f d h0 h1, hf]
theorem dep_lt {l : List Nd} (h : RightP l) {k : Int} (h0 : 0 ≤ k) (h1 : k < l.length) : dep l (paOf l k) < dep l k := by
  have hs := depF_stab l l.length (paOf l k) (h.out h0 h1)
  show depF l (l.length + 1) (paOf l k) < (if k < 0 then 0 else depF l l.length (paOf l k) + 1)
  rw [if_neg (by omega), hs]
  omega
/-- where going up ends -/
def topF (l : List Nd) (k : Int) : Int := cl l (fun k => if paOf l k < 0 then some k else none) (-1) k
def nmOf (l : List Nd) (i : Int) : ByteArray := match l[i.toNat]? with
  | some x => x.nm
  | none => ⟨#[]⟩
theorem nmOf_at {l : List Nd} {k : Nat} (hk : k < l.length) : nmOf l k = l[k].nm := by
  unfold nmOf; rw [Int.toNat_natCast, List.getElem?_eq_getElem hk]
/-- the nearest node of a name, upward -/
def nearF (l : List Nd) (s : ByteArray) (k : Int) : Int := cl l (fun k => if nmOf l k = s then some k else none) (-1) k
/-- is a node, or one that it is within, another one? -/
def withinF (l : List Nd) (o : Int) (k : Int) : Bool := cl l (fun k => if k = o then some true else none) false k
noncomputable def topB (l : List Nd) (id : Int) : Int := if hasB l id = true then topF l id else -1
noncomputable def upB (l : List Nd) (id : Int) (s : ByteArray) : Int := if hasB l id = true then nearF l s (paOf l id) else -1
theorem hasB_iff (l : List Nd) (id : Int) : hasB l id = true ↔ 0 ≤ id ∧ id < l.length ∧ RightP l := by
  unfold hasB
  rw [Bool.and_eq_true, Bool.and_eq_true, decide_eq_true_iff, decide_eq_true_iff, rightB_iff]
theorem topF_go {l : List Nd} (h : RightP l) {k : Int} (h0 : 0 ≤ k) (h1 : k < l.length) (hp : 0 ≤ paOf l k) : topF l k = topF l (paOf l k) := cl_go h _ _ h0 h1 (if_neg (by omega))
theorem topF_end {l : List Nd} (h : RightP l) {k : Int} (h0 : 0 ≤ k) (h1 : k < l.length) (hp : paOf l k < 0) : topF l k = k := cl_hit h _ _ h0 h1 (if_pos hp)
theorem nearF_neg (l : List Nd) (s : ByteArray) {k : Int} (h : k < 0) : nearF l s k = -1 := cl_neg l _ _ h
theorem nearF_hit {l : List Nd} (h : RightP l) {s : ByteArray} {k : Int} (h0 : 0 ≤ k) (h1 : k < l.length) (hn : nmOf l k = s) : nearF l s k = k := cl_hit h _ _ h0 h1 (if_pos hn)
theorem nearF_go {l : List Nd} (h : RightP l) {s : ByteArray} {k : Int} (h0 : 0 ≤ k) (h1 : k < l.length) (hn : nmOf l k ≠ s) : nearF l s k = nearF l s (paOf l k) := cl_go h _ _ h0 h1 (if_neg hn)
theorem withinF_neg (l : List Nd) (o : Int) {k : Int} (h : k < 0) : withinF l o k = false := cl_neg l _ _ h
theorem withinF_hit {l : List Nd} (h : RightP l) {o k : Int} (h0 : 0 ≤ k) (h1 : k < l.length) (hn : k = o) : withinF l o k = true := cl_hit h _ _ h0 h1 (if_pos hn)
theorem withinF_go {l : List Nd} (h : RightP l) {o k : Int} (h0 : 0 ≤ k) (h1 : k < l.length) (hn : k ≠ o) : withinF l o k = withinF l o (paOf l k) := cl_go h _ _ h0 h1 (if_neg hn)
end Go.Proofs.YtafbghlldlconaaGreat

/-
  THE ORDER OF A RIGHT DOCUMENT: plain laws.
-/
namespace Go.Proofs.YtafbghlldlconaaGreat
set_option linter.unusedVariables false
set_option linter.unusedSimpArgs false
open Go.RowKit PT

def ordF (l : List Nd) : Nat → Int → List Int
  | 0, _ => []
  | n + 1, i => i :: (ksOf l i).flatMap (ordF l n)
/-- a node, and what is within it, in order -/
def ord (l : List Nd) (i : Int) : List Int := ordF l (l.length + 2) i
theorem depF_le (l : List Nd) : ∀ (n : Nat) (k : Int), depF l n k ≤ n
  | 0, _ => Nat.le_refl _
  | n + 1, k => by
    show (if k < 0 then 0 else depF l n (paOf l k) + 1) ≤ n + 1
    have := depF_le l n (paOf l k)
    split <;> omega
theorem dep_le (l : List Nd) (k : Int) : dep l k ≤ l.length + 1 := depF_le l _ k
theorem dep_eq {l : List Nd} (h : RightP l) {k : Int} (h0 : 0 ≤ k) (h1 : k < l.length) : dep l k = dep l (paOf l k) + 1 := by
  have hs := depF_stab l l.length (paOf l k) (h.out h0 h1)
  show (if k < 0 then 0 else depF l l.length (paOf l k) + 1) = depF l (l.length + 1) (paOf l k) + 1
  rw [if_neg (by omega), hs]
theorem RightP.kid {l : List Nd} (h : RightP l) {k : Int} (h0 : 0 ≤ k) (h1 : k < l.length) {c : Int} (hc : c ∈ ksOf l k) : 0 ≤ c ∧ c < l.length ∧ paOf l c = k := by
  obtain ⟨q, rfl⟩ := Int.eq_ofNat_of_zero_le h0
  have hq : q < l.length := by omega
  rw [ksOf_at hq] at hc
  exact h.kids q _ (List.getElem?_eq_getElem hq) c hc
theorem RightP.nodup {l : List Nd} (h : RightP l) {k : Int} (h0 : 0 ≤ k) (h1 : k < l.length) : (ksOf l k).Nodup := by
  obtain ⟨q, rfl⟩ := Int.eq_ofNat_of_zero_le h0
  have hq : q < l.length := by omega
  rw [ksOf_at hq, List.nodup_iff_count]
  intro c
  by_cases hm : c ∈ l[q].ks
  · obtain ⟨p, rfl⟩ := Int.eq_ofNat_of_zero_le (h.kids q _ (List.getElem?_eq_getElem hq) c hm).1
    exact ((once_iff l h.kids (fun i x hx => (h.node i x hx).2.2)).1 h.once).1 q _ (List.getElem?_eq_getElem hq) p
  · rw [List.count_eq_zero.2 hm]; omega
theorem dep_kid {l : List Nd} (h : RightP l) {k : Int} (h0 : 0 ≤ k) (h1 : k < l.length) {c : Int} (hc : c ∈ ksOf l k) : dep l c = dep l k + 1 := by
  obtain ⟨c0, c1, c2⟩ := h.kid h0 h1 hc
  rw [dep_eq h c0 c1, c2]
theorem flatMap_eq {α β : Type} {f g : α → List β} : ∀ {t : List α}, (∀ x ∈ t, f x = g x) → t.flatMap f = t.flatMap g
  | [], _ => rfl
  | x :: t, h => by
    rw [List.flatMap_cons, List.flatMap_cons, h x (List.mem_cons_self ..), flatMap_eq (fun y hy => h y (List.mem_cons_of_mem _ hy))]
theorem ordF_stab {l : List Nd} (h : RightP l) : ∀ (n : Nat) (k : Int), 0 ≤ k → k < l.length → l.length + 2 ≤ n + dep l k → ordF l (n + 1) k = ordF l n k
  | 0, k, _, _, hd => by have := dep_le l k; omega
  | n + 1, k, h0, h1, hd => by
    show k :: (ksOf l k).flatMap (ordF l (n + 1)) = k :: (ksOf l k).flatMap (ordF l n)
    rw [flatMap_eq (f := ordF l (n + 1)) (g := ordF l n) (fun c hc => by
      obtain ⟨c0, c1, c2⟩ := h.kid h0 h1 hc
      exact ordF_stab h n c c0 c1 (by rw [dep_kid h h0 h1 hc]; omega))]
theorem ord_eq {l : List Nd} (h : RightP l) {k : Int} (h0 : 0 ≤ k) (h1 : k < l.length) : ord l k = k :: (ksOf l k).flatMap (ord l) := by
  show k :: (ksOf l k).flatMap (ordF l (l.length + 1)) = k :: (ksOf l k).flatMap (ordF l (l.length + 2))
  rw [flatMap_eq (f := ordF l (l.length + 2)) (g := ordF l (l.length + 1)) (fun c hc => by
    obtain ⟨c0, c1, c2⟩ := h.kid h0 h1 hc
    have := dep_eq h h0 h1
    exact ordF_stab h _ c c0 c1 (by rw [dep_kid h h0 h1 hc]; omega))]

/-- is c the node k, or within it? -/
def Anc (l : List Nd) (c k : Int) : Prop := withinF l k c = true
theorem Anc.self {l : List Nd} (h : RightP l) {k : Int} (h0 : 0 ≤ k) (h1 : k < l.length) : Anc l k k := withinF_hit h h0 h1 rfl
theorem Anc.nonneg {l : List Nd} {c k : Int} (ha : Anc l c k) : 0 ≤ c := by
  by_cases h : 0 ≤ c
  · exact h
  · have := withinF_neg l k (show c < 0 by omega)
    rw [Anc, this] at ha
    cases ha
theorem Anc.step {l : List Nd} (h : RightP l) {c k : Int} (h0 : 0 ≤ c) (h1 : c < l.length) (hne : c ≠ k) : Anc l c k ↔ Anc l (paOf l c) k := by
  unfold Anc; rw [withinF_go h h0 h1 hne]
theorem RightP.pa_lt {l : List Nd} (h : RightP l) {c : Int} (h0 : 0 ≤ c) (h1 : c < l.length) : paOf l c < l.length := by
  obtain ⟨q, rfl⟩ := Int.eq_ofNat_of_zero_le h0
  have hq : q < l.length := by omega
  rw [paOf_at hq]
  exact (h.node q _ (List.getElem?_eq_getElem hq)).2.2
theorem RightP.pa_ge {l : List Nd} (h : RightP l) {c : Int} (h0 : 0 ≤ c) (h1 : c < l.length) : -1 ≤ paOf l c := by
  obtain ⟨q, rfl⟩ := Int.eq_ofNat_of_zero_le h0
  have hq : q < l.length := by omega
  rw [paOf_at hq]
  exact (h.node q _ (List.getElem?_eq_getElem hq)).2.1
theorem Anc.dep {l : List Nd} (h : RightP l) {k : Int} : ∀ (n : Nat) (c : Int), dep l c = n → c < l.length → Anc l c k → c = k ∨ dep l k < dep l c := by
  intro n
  induction n with
  | zero => intro c hd h1 ha; have := dep_eq h ha.nonneg h1; omega
  | succ n ih =>
    intro c hd h1 ha
    by_cases e : c = k
    · exact .inl e
    · have h0 := ha.nonneg
      have ha' := (Anc.step h h0 h1 e).1 ha
      have hde := dep_eq h h0 h1
      rcases ih (paOf l c) (by omega) (h.pa_lt h0 h1) ha' with e2 | h2
      · right; rw [← e2]; omega
      · right; omega
theorem Anc.uniq {l : List Nd} (h : RightP l) {k1 k2 : Int} (hk : Go.Proofs.YtafbghlldlconaaGreat.dep l k1 = Go.Proofs.YtafbghlldlconaaGreat.dep l k2) : ∀ (n : Nat) (c : Int), Go.Proofs.YtafbghlldlconaaGreat.dep l c = n → c < l.length → Anc l c k1 → Anc l c k2 → k1 = k2 := by
  intro n
  induction n with
  | zero => intro c hd h1 ha _; have := dep_eq h ha.nonneg h1; omega
  | succ n ih =>
    intro c hd h1 a1 a2
    by_cases e1 : c = k1
    · rcases Anc.dep h _ c rfl h1 a2 with e | e
      · rw [← e1, e]
      · rw [e1] at e; omega
    by_cases e2 : c = k2
    · rcases Anc.dep h _ c rfl h1 a1 with e | e
      · exact absurd e e1
      · rw [e2] at e; omega
    have h0 := a1.nonneg
    have := dep_eq h h0 h1
    exact ih (paOf l c) (by omega) (h.pa_lt h0 h1) ((Anc.step h h0 h1 e1).1 a1) ((Anc.step h h0 h1 e2).1 a2)
theorem Anc.up {l : List Nd} (h : RightP l) {k m : Int} (h0 : 0 ≤ k) (h1 : k < l.length) (hm : paOf l m = k) : ∀ (n : Nat) (c : Int), Go.Proofs.YtafbghlldlconaaGreat.dep l c = n → c < l.length → Anc l c m → Anc l c k := by
  intro n
  induction n with
  | zero => intro c hd hc ha; have := dep_eq h ha.nonneg hc; omega
  | succ n ih =>
    intro c hd hc ha
    have c0 := ha.nonneg
    have hde := dep_eq h c0 hc
    by_cases ek : c = k
    · rw [ek]; exact Anc.self h h0 h1
    rw [Anc.step h c0 hc ek]
    by_cases em : c = m
    · rw [em, hm]; exact Anc.self h h0 h1
    · exact ih (paOf l c) (by omega) (h.pa_lt c0 hc) ((Anc.step h c0 hc em).1 ha)
/-- what is in the order -/
theorem mem_ordF {l : List Nd} (h : RightP l) : ∀ (n : Nat) (k : Int), 0 ≤ k → k < l.length → ∀ c ∈ ordF l n k, 0 ≤ c ∧ c < l.length ∧ Anc l c k
  | 0, _, _, _, c, hc => by cases hc
  | n + 1, k, h0, h1, c, hc => by
    rcases List.mem_cons.1 hc with rfl | hm
    · exact ⟨h0, h1, Anc.self h h0 h1⟩
    · obtain ⟨m, hmk, hcm⟩ := List.mem_flatMap.1 hm
      obtain ⟨m0, m1, m2⟩ := h.kid h0 h1 hmk
      obtain ⟨c0, c1, c2⟩ := mem_ordF h n m m0 m1 c hcm
      exact ⟨c0, c1, Anc.up h h0 h1 m2 _ c rfl c1 c2⟩
theorem nodup_flat {α β : Type} {f : α → List β} : ∀ {t : List α}, t.Nodup → (∀ x ∈ t, (f x).Nodup) → (∀ x ∈ t, ∀ y ∈ t, x ≠ y → ∀ b ∈ f x, b ∉ f y) → (t.flatMap f).Nodup
  | [], _, _, _ => List.nodup_nil
  | x :: t, hn, h1, h2 => by
    rw [List.flatMap_cons, List.nodup_append]
    obtain ⟨hx, ht⟩ := List.nodup_cons.1 hn
    refine ⟨h1 x (List.mem_cons_self ..), nodup_flat ht (fun y hy => h1 y (List.mem_cons_of_mem _ hy)) (fun y hy z hz => h2 y (List.mem_cons_of_mem _ hy) z (List.mem_cons_of_mem _ hz)), fun a ha b hb e => ?_⟩
    subst e
    obtain ⟨y, hy, hb⟩ := List.mem_flatMap.1 hb
    exact h2 x (List.mem_cons_self ..) y (List.mem_cons_of_mem _ hy) (fun e => hx (e ▸ hy)) a ha hb
theorem nodup_ordF {l : List Nd} (h : RightP l) : ∀ (n : Nat) (k : Int), 0 ≤ k → k < l.length → (ordF l n k).Nodup
  | 0, _, _, _ => List.nodup_nil
  | n + 1, k, h0, h1 => by
    show (k :: (ksOf l k).flatMap (ordF l n)).Nodup
    rw [List.nodup_cons]
    constructor
    · intro hm
      obtain ⟨m, hmk, hcm⟩ := List.mem_flatMap.1 hm
      obtain ⟨m0, m1, m2⟩ := h.kid h0 h1 hmk
      obtain ⟨_, _, c2⟩ := mem_ordF h n m m0 m1 k hcm
      have := dep_kid h h0 h1 hmk
      rcases Anc.dep h _ k rfl h1 c2 with e | e
      · rw [← e] at this; omega
      · omega
    · refine nodup_flat (h.nodup h0 h1) (fun m hm => ?_) (fun m hm m' hm' hne b hb hb' => ?_)
      · obtain ⟨m0, m1, _⟩ := h.kid h0 h1 hm
        exact nodup_ordF h n m m0 m1
      · obtain ⟨m0, m1, _⟩ := h.kid h0 h1 hm
        obtain ⟨n0, n1, _⟩ := h.kid h0 h1 hm'
        obtain ⟨_, b1, b2⟩ := mem_ordF h n m m0 m1 b hb
        obtain ⟨_, _, b3⟩ := mem_ordF h n m' n0 n1 b hb'
        exact hne (Anc.uniq h (by rw [dep_kid h h0 h1 hm, dep_kid h h0 h1 hm']) _ b rfl b1 b2 b3)
theorem S_ones : ∀ n, S n (fun _ => 1) = n
  | 0 => rfl
  | n + 1 => by show S n (fun _ => 1) + 1 = n + 1; rw [S_ones n]
theorem nodup_len {n : Nat} {t : List Int} (hn : t.Nodup) (h : ∀ c ∈ t, 0 ≤ c ∧ c < (n : Int)) : t.length ≤ n := by
  rw [len_S n t h]
  refine Nat.le_trans (S_le (g := fun _ => 1) fun i _ => ?_) (by rw [S_ones]; exact Nat.le_refl _)
  exact List.nodup_iff_count.1 hn _
theorem ord_len {l : List Nd} (h : RightP l) {k : Int} (h0 : 0 ≤ k) (h1 : k < l.length) : (ord l k).length ≤ l.length :=
  nodup_len (nodup_ordF h _ k h0 h1) (fun c hc => ⟨(mem_ordF h _ k h0 h1 c hc).1, (mem_ordF h _ k h0 h1 c hc).2.1⟩)
theorem ord_mem {l : List Nd} (h : RightP l) {k : Int} (h0 : 0 ≤ k) (h1 : k < l.length) {c : Int} (hc : c ∈ ord l k) : 0 ≤ c ∧ c < l.length ∧ Anc l c k := mem_ordF h _ k h0 h1 c hc
end Go.Proofs.YtafbghlldlconaaGreat
