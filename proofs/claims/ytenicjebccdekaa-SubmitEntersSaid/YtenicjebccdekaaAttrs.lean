/-
  ATTRIBUTES: slices.IndexFunc, ContainsFunc over them; tree.find, kinds.attr, owner.has; ref10.Find, ref14.Attr, ref15.Has: the walks.
-/
import Derived.Test.YtenicjebccdekaaNodes
import Derived.Shelf.Abstract
namespace Go.Proofs.Ytenicjebccdekaa
set_option linter.unusedVariables false
set_option linter.unusedSimpArgs false
open Go.RowKit

theorem take_mem_snoc {α : Type} {l : List α} {k : Nat} (hk : k < l.length) {P : α → Prop} (h : ∀ x ∈ l.take k, P x) (hx : P l[k]) : ∀ x ∈ l.take (k + 1), P x := by
  rw [List.take_succ_eq_append_getElem hk]
  intro x hm
  rcases List.mem_append.1 hm with hm | hm
  · exact h x hm
  · rw [List.mem_singleton] at hm; rw [hm]; exact hx
def atV (x : At) : Value := .agg #[.string x.n, .string x.v]
set_option maxHeartbeats 1000000 in
set_option maxRecDepth 100000 in
theorem indexFuncA_any (l : List At) (f : At → Bool) (u : Value) (g : Nat) (lb : Array Value) (eg : ∀ args w, (callFunc g args).run Try.prog w = .ok (.enter g args) w) (hl : l.length ≤ 1000000000000000) (w : World) (hU : Atts l u w)
    (hp : ∀ W, Below w.heap.size w W → ∀ x ∈ l, Calls Try.prog g (#[atV x] ++ lb) W fun e w' => e = .returned (.bool (f x)) ∧ Below W.heap.size W w') :
    Calls Try.prog 120 #[u, .func (.func g) #[] lb] w fun e w' => e = .returned (.int .i64 (fi l f)) ∧ Below w.heap.size w w' := by
  obtain ⟨a, cap, rfl⟩ := hU.len
  go_enter Try.func120, Try.ntmps120
  go_wp2_with fail
  go_loopw [8] (fun i wr => ∃ k : Nat, k ≤ l.length ∧ i = .int .i64 k ∧ Hid (∀ x ∈ l.take k, f x = false) ∧ Below w.heap.size w wr) (fun i _ => l.length - (intOf i).toNat)
  case atStart => exact ⟨0, Nat.zero_le _, rfl, Lib.hid (by simp), Below.refl _ _⟩
  case round =>
    obtain ⟨k, hk, rfl, hA, hbel⟩ := hrel
    by_cases hlt : k < l.length
    · obtain ⟨b, o, cap', hv, _, hb, hc0, hc1⟩ := (hU.kept hbel).at hlt
      cases hv
      have hT := Lib.hid (fun h => take_mem_snoc (P := fun x => f x = false) hlt hA.out h)
      have hH := Lib.hid (fun h => fi_hit hlt hA.out h)
      have hM := List.getElem_mem hlt
      have hcall := hp wr hbel l[k] hM
      generalize l[k] = x at *
      unfold atV at hcall
      have HC := Lib.hid hcall
      clear hcall
      go_wp2_with fail
      refine HC.out.mono ?_
      rintro e w2 ⟨rfl, hb2⟩
      cases hf : f x
      · have hN := Lib.hid (hT.out hf)
        clear hf
        go_wp2_with fail
        go_roundw
        case rel => exact ⟨k + 1, by omega, by go_num, hN, hbel.trans (hb2.mono hbel.size)⟩
        case measure => simp [intOf]; omega
      · have hN := Lib.hid (hH.out hf)
        clear hf
        go_wp2_with fail
        go_ret
        exact ⟨ret_int hN.out.symm, hbel.trans (hb2.mono hbel.size)⟩
    · obtain rfl : k = l.length := by omega
      have hN := Lib.hid (show fi l f = -1 from fi_none (by have := hA.out; rwa [List.take_of_length_le (Nat.le_refl _)] at this))
      go_wp2_with fail
      go_ret
      exact ⟨ret_int hN.out.symm, hbel⟩
/-- is there one? -/
def hasA (l : List At) (f : At → Bool) : Bool := decide (0 ≤ fi l f)
set_option maxHeartbeats 1000000 in
set_option maxRecDepth 100000 in
theorem containsFuncA_any (l : List At) (f : At → Bool) (u : Value) (g : Nat) (lb : Array Value) (eg : ∀ args w, (callFunc g args).run Try.prog w = .ok (.enter g args) w) (hl : l.length ≤ 1000000000000000) (w : World) (hU : Atts l u w)
    (hp : ∀ W, Below w.heap.size w W → ∀ x ∈ l, Calls Try.prog g (#[atV x] ++ lb) W fun e w' => e = .returned (.bool (f x)) ∧ Below W.heap.size W w') :
    Calls Try.prog 103 #[u, .func (.func g) #[] lb] w fun e w' => e = .returned (.bool (hasA l f)) ∧ Below w.heap.size w w' := by
  go_enter Try.func103, Try.ntmps103
  go_wp2_with fail
  refine (indexFuncA_any l f u g lb eg hl _ hU hp).mono ?_
  rintro e w2 ⟨rfl, hb2⟩
  have HZ := Lib.hid (show hasA l f = decide (0 ≤ fi l f) from rfl)
  generalize fi l f = z at HZ ⊢
  go_wp2_with fail
  go_ret
  exact ⟨ret_bool HZ.out.symm, hb2⟩
set_option maxHeartbeats 1000000 in
set_option maxRecDepth 100000 in
theorem findFn_any (x : At) (s : ByteArray) (B : Nat) (w : World) (hB : B < w.heap.size) (hc : w.cell? ⟨B, 0, none⟩ = some (.string s)) :
    Calls Try.prog 122 #[atV x, .pointer (some ⟨B, 0, none⟩)] w fun e w' => e = .returned (.bool (isN s x)) ∧ Below w.heap.size w w' := by
  unfold atV
  have hb0 := (Below.refl w.heap.size w).alloc (Nat.le_refl _) (.cells #[.string x.n, .string x.v] 65)
  by_cases h : x.n = s
  · have hR := Lib.hid (show isN s x = true from decide_eq_true h)
    have hq := sTrue h
    clear h
    go_enter Try.func122, Try.ntmps122
    go_wp2_with fail
    go_ret
    exact ⟨ret_bool hR.out.symm, hb0⟩
  · have hR := Lib.hid (show isN s x = false from decide_eq_false h)
    have hq := sFalse h
    clear h
    go_enter Try.func122, Try.ntmps122
    go_wp2_with fail
    go_ret
    exact ⟨ret_bool hR.out.symm, hb0⟩
set_option maxHeartbeats 1000000 in
set_option maxRecDepth 100000 in
theorem find_at (l : List At) (u : Value) (s : ByteArray) (hl : l.length ≤ 1000000000000000) (w : World) (hU : Atts l u w) :
    Calls Try.prog 115 #[u, .string s] w fun e w' => e = .returned (.int .i64 (fi l (isN s))) ∧ Below w.heap.size w w' := by
  have hb0 := (Below.refl w.heap.size w).alloc (Nat.le_refl _) (.cells #[.string s] 9)
  have hn0 := Go.heap_alloc_new w (.cells #[.string s] 9)
  have hs0 : (w.alloc (.cells #[.string s] 9)).heap.size = w.heap.size + 1 := by simp
  have hU0 := hU.kept hb0
  have hc0 : (w.alloc (.cells #[.string s] 9)).cell? ⟨w.heap.size, 0, none⟩ = some (.string s) := by simp only [World.cell?, hn0]; rfl
  obtain ⟨a, cap, rfl⟩ := hU.len
  have hp : ∀ W, Below (w.alloc (.cells #[.string s] 9)).heap.size (w.alloc (.cells #[.string s] 9)) W → ∀ x ∈ l, Calls Try.prog 122 (#[atV x] ++ #[.pointer (some ⟨w.heap.size, 0, none⟩)]) W fun e w' => e = .returned (.bool (isN s x)) ∧ Below W.heap.size W w' := by
    intro W hW x hx
    have hWs := hW.size
    exact findFn_any x s w.heap.size W (by omega) (cellK hW (by omega) hc0)
  have HP := Lib.hid hp
  have HS := Lib.hid hs0
  clear hp hs0
  go_enter Try.func115, Try.ntmps115
  go_wp2_with fail
  refine (indexFuncA_any l (isN s) _ 122 #[.pointer (some ⟨w.heap.size, 0, none⟩)] (enters_of Try.func122 (by kernel_rfl) rfl) hl _ hU0 HP.out).mono ?_
  rintro e w2 ⟨rfl, hb2⟩
  go_wp2_with fail
  go_ret
  exact ⟨rfl, bs hb0 hb2⟩
set_option maxHeartbeats 1000000 in
set_option maxRecDepth 100000 in
theorem refFind10_any (l : List At) (u : Value) (s : ByteArray) (hl : l.length ≤ 1000000000000000) (w : World) (hU : Atts l u w) :
    Calls Try.prog 73 #[u, .string s] w fun e w' => e = .returned (.int .i64 (fi l (isN s))) ∧ w = w' := by
  obtain ⟨a, cap, rfl⟩ := hU.len
  go_enter Try.func73, Try.ntmps73
  go_wp2_with fail
  go_loop [5] (fun i => ∃ k : Nat, k ≤ l.length ∧ i = .int .i64 k ∧ Hid (∀ x ∈ l.take k, isN s x = false)) (fun i => l.length - (intOf i).toNat)
  case atStart => exact ⟨0, Nat.zero_le _, rfl, Lib.hid (by simp)⟩
  case round =>
    obtain ⟨k, hk, rfl, hA⟩ := hrel
    by_cases hlt : k < l.length
    · obtain ⟨b, o, cap', hv, _, hb, hc0, hc1⟩ := hU.at hlt
      cases hv
      have hT := Lib.hid (fun h => take_mem_snoc (P := fun x => isN s x = false) hlt hA.out h)
      have hH := Lib.hid (fun h => fi_hit hlt hA.out h)
      generalize l[k] = x at *
      by_cases h : x.n = s
      · have hN := Lib.hid (hH.out (show isN s x = true from decide_eq_true h))
        have hq := sTrue h
        clear h
        go_wp2_with fail
        go_ret
        exact ⟨ret_int hN.out.symm, rfl⟩
      · have hN := Lib.hid (hT.out (show isN s x = false from decide_eq_false h))
        have hq := sFalse h
        clear h
        go_wp2_with fail
        go_round
        case rel => exact ⟨k + 1, by omega, by go_num, hN⟩
        case measure => simp [intOf]; omega
    · obtain rfl : k = l.length := by omega
      have hN := Lib.hid (show fi l (isN s) = -1 from fi_none (by have := hA.out; rwa [List.take_of_length_le (Nat.le_refl _)] at this))
      go_wp2_with fail
      go_ret
      exact ⟨ret_int hN.out.symm, rfl⟩
/-- an attribute's value -/
def atO (l : List At) (s : ByteArray) : Option ByteArray := if 0 ≤ fi l (isN s) then (l[(fi l (isN s)).toNat]?).map (·.v) else none
theorem atO_none {l : List At} {s : ByteArray} (h : fi l (isN s) = -1) : atO l s = none := by unfold atO; rw [h]; rfl
theorem atO_some {l : List At} {s : ByteArray} {k : Nat} (hk : k < l.length) (h : fi l (isN s) = (k : Nat)) : atO l s = some l[k].v := by
  unfold atO
  rw [h, if_pos (by omega), Int.toNat_natCast, List.getElem?_eq_getElem hk]; rfl
theorem hasA_iff (l : List At) (s : ByteArray) : hasA l (isN s) = (atO l s).isSome := by
  unfold hasA
  rcases fi_cases l (isN s) with ⟨h, _⟩ | ⟨k, hk, h, _⟩
  · rw [atO_none h, h]; rfl
  · rw [atO_some hk h, h]; simp
/-- what is returned of an attribute: its value, and whether there is one -/
def atT (o : Option ByteArray) : Value := .tuple #[.string (o.getD ⟨#[]⟩), .bool o.isSome]
set_option maxHeartbeats 1000000 in
set_option maxRecDepth 100000 in
theorem refAttr14_any (l : List At) (u : Value) (s : ByteArray) (hl : l.length ≤ 1000000000000000) (w : World) (hU : Atts l u w) :
    Calls Try.prog 56 #[u, .string s] w fun e w' => e = .returned (atT (atO l s)) ∧ w = w' := by
  obtain ⟨a, cap, rfl⟩ := hU.len
  rcases fi_cases l (isN s) with ⟨h, _⟩ | ⟨k, hk, h, _⟩
  · have hR := Lib.hid (atO_none h)
    have HF := Lib.hid h
    clear h
    go_enter Try.func56, Try.ntmps56
    go_wp2_with fail
    refine (refFind10_any l _ s hl _ hU).mono ?_
    rintro e w' ⟨rfl, rfl⟩
    rw [HF.out]
    go_wp2_with fail
    go_ret2
    exact ⟨by rw [hR.out]; rfl, rfl⟩
  · have hR := Lib.hid (atO_some hk h)
    have HF := Lib.hid h
    obtain ⟨b, o, cap', hv, _, hb, hc0, hc1⟩ := hU.at hk
    cases hv
    clear h
    generalize l[k] = x at *
    have hk0 : (0 : Int) ≤ (k : Int) := by omega
    have hk1 : (k : Int) < (l.length : Int) := by omega
    have hk2 : decide ((k : Int) < 0) = false := by simp
    go_enter Try.func56, Try.ntmps56
    go_wp2_with fail
    refine (refFind10_any l _ s hl _ hU).mono ?_
    rintro e w' ⟨rfl, rfl⟩
    rw [HF.out]
    go_wp2_with fail
    go_ret2
    exact ⟨by rw [hR.out]; rfl, rfl⟩
set_option maxHeartbeats 1000000 in
set_option maxRecDepth 100000 in
theorem refHas15_any (x : Nd) (va vk : Value) (s : ByteArray) (hl : x.ats.length ≤ 1000000000000000) (w : World) (hU : Atts x.ats va w) :
    Calls Try.prog 68 #[NdV x va vk, .string s] w fun e w' => e = .returned (.bool (atO x.ats s).isSome) ∧ Below w.heap.size w w' := by
  unfold NdV
  have hb0 := (Below.refl w.heap.size w).alloc (Nat.le_refl _) (.cells #[.string x.nm, .string x.tx, va, .int .i64 x.pa, vk] 35)
  have hU0 := hU.kept hb0
  obtain ⟨a, cap, rfl⟩ := hU.len
  have hR := Lib.hid (show decide (0 ≤ fi x.ats (isN s)) = (atO x.ats s).isSome from hasA_iff x.ats s)
  go_enter Try.func68, Try.ntmps68
  go_wp2_with fail
  refine (refFind10_any x.ats _ s hl _ hU0).mono ?_
  rintro e w' ⟨rfl, rfl⟩
  generalize fi x.ats (isN s) = z at hR ⊢
  go_wp2_with fail
  go_ret
  exact ⟨ret_bool hR.out, hb0⟩
set_option maxHeartbeats 1000000 in
set_option maxRecDepth 100000 in
theorem hasFn_any (x : At) (s : ByteArray) (B : Nat) (w : World) (hB : B < w.heap.size) (hc : w.cell? ⟨B, 0, none⟩ = some (.string s)) :
    Calls Try.prog 104 #[atV x, .pointer (some ⟨B, 0, none⟩)] w fun e w' => e = .returned (.bool (isN s x)) ∧ Below w.heap.size w w' := by
  unfold atV
  have hb0 := (Below.refl w.heap.size w).alloc (Nat.le_refl _) (.cells #[.string x.n, .string x.v] 65)
  by_cases h : x.n = s
  · have hR := Lib.hid (show isN s x = true from decide_eq_true h)
    have hq := sTrue h
    clear h
    go_enter Try.func104, Try.ntmps104
    go_wp2_with fail
    go_ret
    exact ⟨ret_bool hR.out.symm, hb0⟩
  · have hR := Lib.hid (show isN s x = false from decide_eq_false h)
    have hq := sFalse h
    clear h
    go_enter Try.func104, Try.ntmps104
    go_wp2_with fail
    go_ret
    exact ⟨ret_bool hR.out.symm, hb0⟩
set_option maxHeartbeats 1000000 in
set_option maxRecDepth 100000 in
theorem ownerHas_any (x : Nd) (va vk : Value) (s : ByteArray) (hl : x.ats.length ≤ 1000000000000000) (w : World) (hU : Atts x.ats va w) :
    Calls Try.prog 66 #[NdV x va vk, .string s] w fun e w' => e = .returned (.bool (atO x.ats s).isSome) ∧ Below w.heap.size w w' := by
  unfold NdV
  have hba := (Below.refl w.heap.size w).alloc (Nat.le_refl _) (.cells #[.string x.nm, .string x.tx, va, .int .i64 x.pa, vk] 35)
  have hb0 := hba.alloc (by simp) (.cells #[.string s] 9)
  have hsa : (w.alloc (.cells #[.string x.nm, .string x.tx, va, .int .i64 x.pa, vk] 35)).heap.size = w.heap.size + 1 := by simp
  have hs0 : ((w.alloc (.cells #[.string x.nm, .string x.tx, va, .int .i64 x.pa, vk] 35)).alloc (.cells #[.string s] 9)).heap.size = w.heap.size + 1 + 1 := by simp
  have hn0 := Go.heap_alloc_new (w.alloc (.cells #[.string x.nm, .string x.tx, va, .int .i64 x.pa, vk] 35)) (.cells #[.string s] 9)
  rw [hsa] at hn0
  have hU0 := hU.kept hb0
  have hc0 : ((w.alloc (.cells #[.string x.nm, .string x.tx, va, .int .i64 x.pa, vk] 35)).alloc (.cells #[.string s] 9)).cell? ⟨w.heap.size + 1, 0, none⟩ = some (.string s) := by simp only [World.cell?, hn0]; rfl
  obtain ⟨a, cap, rfl⟩ := hU.len
  have hp : ∀ W, Below ((w.alloc (.cells #[.string x.nm, .string x.tx, .slice a x.ats.length cap, .int .i64 x.pa, vk] 35)).alloc (.cells #[.string s] 9)).heap.size ((w.alloc (.cells #[.string x.nm, .string x.tx, .slice a x.ats.length cap, .int .i64 x.pa, vk] 35)).alloc (.cells #[.string s] 9)) W → ∀ y ∈ x.ats, Calls Try.prog 104 (#[atV y] ++ #[.pointer (some ⟨w.heap.size + 1, 0, none⟩)]) W fun e w' => e = .returned (.bool (isN s y)) ∧ Below W.heap.size W w' := by
    intro W hW y hy
    have hWs := hW.size
    exact hasFn_any y s (w.heap.size + 1) W (by omega) (cellK hW (by omega) hc0)
  have hR := Lib.hid (hasA_iff x.ats s)
  have HP := Lib.hid hp
  clear hp hsa hs0 hn0 hc0
  go_enter Try.func66, Try.ntmps66
  go_wp2_with fail
  refine (containsFuncA_any x.ats (isN s) _ 104 #[.pointer (some ⟨w.heap.size + 1, 0, none⟩)] (enters_of Try.func104 (by kernel_rfl) rfl) hl _ hU0 HP.out).mono ?_
  rintro e w2 ⟨rfl, hb2⟩
  rw [hR.out]
  go_wp2_with fail
  go_ret
  exact ⟨rfl, bs hb0 hb2⟩
set_option maxHeartbeats 1000000 in
set_option maxRecDepth 100000 in
theorem attrFn_any (x : At) (s : ByteArray) (B : Nat) (w : World) (hB : B < w.heap.size) (hc : w.cell? ⟨B, 0, none⟩ = some (.string s)) :
    Calls Try.prog 121 #[atV x, .pointer (some ⟨B, 0, none⟩)] w fun e w' => e = .returned (.bool (isN s x)) ∧ Below w.heap.size w w' := by
  unfold atV
  have hb0 := (Below.refl w.heap.size w).alloc (Nat.le_refl _) (.cells #[.string x.n, .string x.v] 65)
  by_cases h : x.n = s
  · have hR := Lib.hid (show isN s x = true from decide_eq_true h)
    have hq := sTrue h
    clear h
    go_enter Try.func121, Try.ntmps121
    go_wp2_with fail
    go_ret
    exact ⟨ret_bool hR.out.symm, hb0⟩
  · have hR := Lib.hid (show isN s x = false from decide_eq_false h)
    have hq := sFalse h
    clear h
    go_enter Try.func121, Try.ntmps121
    go_wp2_with fail
    go_ret
    exact ⟨ret_bool hR.out.symm, hb0⟩
end Go.Proofs.Ytenicjebccdekaa
