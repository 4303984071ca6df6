/-
  A FORM's SETTINGS: submit.fires, settings, Method, Kind, Asks; ref24.fires, Setting, Method, Kind, Asks: the walks.
-/
import Derived.Test.YtenicjebccdekaaOwnIn
import Derived.Test.YtenicjebccdekaaLow
namespace Go.Proofs.Ytenicjebccdekaa
set_option linter.unusedVariables false
set_option linter.unusedSimpArgs false
open Go.RowKit PT

/-- does a submitter fire? -/
def fireB (l : List Nd) (s : Int) : Bool := firesB (kindF l s)
theorem fireB_in {l : List Nd} {s : Int} (h : fireB l s = true) : 0 ≤ s ∧ s < l.length := by
  refine kindF_pos (l := l) (k := s) (fun e => ?_)
  unfold fireB at h
  rw [e] at h
  revert h
  decide
/-- an attribute of the submitter, or of the form -/
def setO (l : List Nd) (s : Int) (own : ByteArray) : Option ByteArray := if fireB l s = true then atO (atsOf l s) own else none
def setS (l : List Nd) (f s : Int) (own other : ByteArray) : ByteArray := match setO l s own with
  | some v => v
  | none => (atO (atsOf l f) other).getD ⟨#[]⟩
def lowS (s : ByteArray) : ByteArray := ⟨(low s.data.toList).toArray⟩
noncomputable def methF (l : List Nd) (f s : Int) : ByteArray := if hasB l f = true then (if lowS (setS l f s ⟨#[102, 111, 114, 109, 109, 101, 116, 104, 111, 100]⟩ ⟨#[109, 101, 116, 104, 111, 100]⟩) = ⟨#[112, 111, 115, 116]⟩ ∨ lowS (setS l f s ⟨#[102, 111, 114, 109, 109, 101, 116, 104, 111, 100]⟩ ⟨#[109, 101, 116, 104, 111, 100]⟩) = ⟨#[100, 105, 97, 108, 111, 103]⟩ then lowS (setS l f s ⟨#[102, 111, 114, 109, 109, 101, 116, 104, 111, 100]⟩ ⟨#[109, 101, 116, 104, 111, 100]⟩) else ⟨#[103, 101, 116]⟩) else ⟨#[]⟩
noncomputable def kinF (l : List Nd) (f s : Int) : Int := if hasB l f = true then (if lowS (setS l f s ⟨#[102, 111, 114, 109, 101, 110, 99, 116, 121, 112, 101]⟩ ⟨#[101, 110, 99, 116, 121, 112, 101]⟩) = ⟨#[109, 117, 108, 116, 105, 112, 97, 114, 116, 47, 102, 111, 114, 109, 45, 100, 97, 116, 97]⟩ then 2 else if lowS (setS l f s ⟨#[102, 111, 114, 109, 101, 110, 99, 116, 121, 112, 101]⟩ ⟨#[101, 110, 99, 116, 121, 112, 101]⟩) = ⟨#[116, 101, 120, 116, 47, 112, 108, 97, 105, 110]⟩ then 3 else 1) else 0
noncomputable def asksF (l : List Nd) (f s : Int) : Bool := hasB l f && (!(atO (atsOf l f) ⟨#[110, 111, 118, 97, 108, 105, 100, 97, 116, 101]⟩).isSome && !(fireB l s && (atO (atsOf l s) ⟨#[102, 111, 114, 109, 110, 111, 118, 97, 108, 105, 100, 97, 116, 101]⟩).isSome))
theorem atsOf_vals {l : List Nd} (h : RightP l) (i : Int) : ∀ a ∈ atsOf l i, a.v.size ≤ 4000 := by
  unfold atsOf
  split
  · rename_i x hx
    exact one_vals (h.node _ x hx).1
  · intro a ha; cases ha
theorem setS_size {l : List Nd} (h : RightP l) (f s : Int) (own other : ByteArray) : (setS l f s own other).size ≤ 4000 := by
  unfold setS setO
  have h1 := atO_size (atsOf l s) own (atsOf_vals h s)
  have h2 := atO_size (atsOf l f) other (atsOf_vals h f)
  split
  · rename_i v hv
    split at hv
    · rw [hv] at h1; exact h1
    · cases hv
  · exact h2
theorem post_toList : (⟨#[112, 111, 115, 116]⟩ : ByteArray).toList = [112, 111, 115, 116] := by rw [ByteArray.toList_eq]
theorem dia_toList : (⟨#[100, 105, 97, 108, 111, 103]⟩ : ByteArray).toList = [100, 105, 97, 108, 111, 103] := by rw [ByteArray.toList_eq]
theorem mul_toList : (⟨#[109, 117, 108, 116, 105, 112, 97, 114, 116, 47, 102, 111, 114, 109, 45, 100, 97, 116, 97]⟩ : ByteArray).toList = [109, 117, 108, 116, 105, 112, 97, 114, 116, 47, 102, 111, 114, 109, 45, 100, 97, 116, 97] := by rw [ByteArray.toList_eq]
theorem pla_toList : (⟨#[116, 101, 120, 116, 47, 112, 108, 97, 105, 110]⟩ : ByteArray).toList = [116, 101, 120, 116, 47, 112, 108, 97, 105, 110] := by rw [ByteArray.toList_eq]
set_option maxHeartbeats 4000000 in
set_option maxRecDepth 100000 in
theorem fires24_any (l : List Nd) (v : Value) (s : Int) (hl : l.length ≤ 1000000000000000000) (hRP : RightP l) (w : World) (hU : Nodes l v w) :
    Calls Try.prog 94 #[v, .int .i64 s] w fun e w' => e = .returned (.bool (fireB l s)) ∧ Below w.heap.size w w' := by
  obtain ⟨a, cap, rfl⟩ := hU.len
  by_cases h0 : 0 ≤ s
  case neg =>
    have hR := Lib.hid (show fireB l s = false by
      cases e : fireB l s
      · rfl
      · exact absurd (fireB_in e).1 h0)
    have h0' : decide (0 ≤ s) = false := decide_eq_false h0
    go_enter Try.func94, Try.ntmps94
    go_wp2_with fail
    go_ret
    exact ⟨ret_bool hR.out.symm, Below.refl _ _⟩
  by_cases h1 : s < l.length
  case neg =>
    have hR := Lib.hid (show fireB l s = false by
      cases e : fireB l s
      · rfl
      · exact absurd (fireB_in e).2 h1)
    have h1' : decide (s < (l.length : Int)) = false := decide_eq_false h1
    go_enter Try.func94, Try.ntmps94
    go_wp2_with fail
    go_ret
    exact ⟨ret_bool hR.out.symm, Below.refl _ _⟩
  obtain ⟨K, rfl⟩ := Int.eq_ofNat_of_zero_le h0
  have hkl : K < l.length := by omega
  obtain ⟨b, o, cap', va, vk, hv, hb, c0, c1, c2, c3, c4, hat, hks⟩ := hU.at hkl
  cases hv
  have hR := Lib.hid (show fireB l (K : Nat) = firesB (kindOf l[K]) by unfold fireB; rw [kindF_in h0 h1, kOf_at hkl])
  obtain ⟨z1, z2⟩ := hRP.vals _ (List.getElem_mem hkl)
  generalize l[K] = x at *
  obtain ⟨r0, r1⟩ := kindOf_range x
  have hK0 : (0 : Int) ≤ (K : Int) := by omega
  have hK1 : (K : Int) < (l.length : Int) := by omega
  go_enter Try.func94, Try.ntmps94
  go_wp2_with fail
  refine (kindsOf_any x va vk z1 z2 _ hat).mono ?_
  rintro e w1 ⟨rfl, hb1⟩
  go_wp2_with fail
  refine (kindsFires_any _ r0 r1 _).mono ?_
  rintro e w2 ⟨rfl, rfl⟩
  go_wp2_with fail
  go_ret
  exact ⟨ret_bool hR.out.symm, hb1⟩
set_option maxHeartbeats 4000000 in
set_option maxRecDepth 100000 in
theorem refFires24_any (l : List Nd) (v : Value) (s : Int) (hl : l.length ≤ 1000000000000000000) (hRP : RightP l) (w : World) (hU : Nodes l v w) :
    Calls Try.prog 95 #[v, .int .i64 s] w fun e w' => e = .returned (.bool (fireB l s)) ∧ Below w.heap.size w w' := by
  obtain ⟨a, cap, rfl⟩ := hU.len
  by_cases h0 : 0 ≤ s
  case neg =>
    have hR := Lib.hid (show fireB l s = false by
      cases e : fireB l s
      · rfl
      · exact absurd (fireB_in e).1 h0)
    have h0' : decide (0 ≤ s) = false := decide_eq_false h0
    go_enter Try.func95, Try.ntmps95
    go_wp2_with fail
    go_ret
    exact ⟨ret_bool hR.out.symm, Below.refl _ _⟩
  by_cases h1 : s < l.length
  case neg =>
    have hR := Lib.hid (show fireB l s = false by
      cases e : fireB l s
      · rfl
      · exact absurd (fireB_in e).2 h1)
    have h1' : decide (s < (l.length : Int)) = false := decide_eq_false h1
    go_enter Try.func95, Try.ntmps95
    go_wp2_with fail
    go_ret
    exact ⟨ret_bool hR.out.symm, Below.refl _ _⟩
  obtain ⟨K, rfl⟩ := Int.eq_ofNat_of_zero_le h0
  have hkl : K < l.length := by omega
  obtain ⟨b, o, cap', va, vk, hv, hb, c0, c1, c2, c3, c4, hat, hks⟩ := hU.at hkl
  cases hv
  have hR := Lib.hid (show fireB l (K : Nat) = firesB (kindOf l[K]) by unfold fireB; rw [kindF_in h0 h1, kOf_at hkl])
  have hok := (hRP.node K _ (List.getElem?_eq_getElem hkl)).1
  have z1 := one_ats hok
  have z2 := one_vals hok
  generalize l[K] = x at *
  clear hok
  obtain ⟨r0, r1⟩ := kindOf_range x
  have hK0 : (0 : Int) ≤ (K : Int) := by omega
  have hK1 : (K : Int) < (l.length : Int) := by omega
  go_enter Try.func95, Try.ntmps95
  go_wp2_with fail
  refine (refOf11_any x va vk (by omega) (fun a ha => Nat.le_trans (z2 a ha) (by omega)) _ hat).mono ?_
  rintro e w1 ⟨rfl, hb1⟩
  go_wp2_with fail
  refine (refIs5_any _ r0 r1 _).mono ?_
  rintro e w2 ⟨rfl, rfl⟩
  go_wp2_with fail
  go_ret
  exact ⟨ret_bool hR.out.symm, hb1⟩
set_option maxHeartbeats 4000000 in
set_option maxRecDepth 100000 in
theorem there_any (l : List Nd) (v : Value) (id : Int) (hl : l.length ≤ 1000000000000000000) (hz : ∀ x ∈ l, Fits x) (w : World) (hU : Nodes l v w) :
    Calls Try.prog 90 #[v, .int .i64 id] w fun e w' => e = .returned (.bool (hasB l id)) ∧ Below w.heap.size w w' := by
  obtain ⟨a, cap, rfl⟩ := hU.len
  have hH := show hasB l id = (decide (0 ≤ id) && (decide (id < l.length) && rightB l)) from rfl
  by_cases h0 : 0 ≤ id
  case neg =>
    have hR := Lib.hid (show hasB l id = false by rw [hH, decide_eq_false h0]; rfl)
    have h0' : decide (0 ≤ id) = false := decide_eq_false h0
    clear hH
    go_enter Try.func90, Try.ntmps90
    go_wp2_with fail
    go_ret
    exact ⟨ret_bool hR.out.symm, Below.refl _ _⟩
  by_cases h1 : id < l.length
  case neg =>
    have hR := Lib.hid (show hasB l id = false by rw [hH, decide_eq_false h1]; simp)
    have h1' : decide (id < (l.length : Int)) = false := decide_eq_false h1
    clear hH
    go_enter Try.func90, Try.ntmps90
    go_wp2_with fail
    go_ret
    exact ⟨ret_bool hR.out.symm, Below.refl _ _⟩
  have hR := Lib.hid (show hasB l id = rightB l by rw [hH, decide_eq_true h0, decide_eq_true h1]; rfl)
  clear hH
  go_enter Try.func90, Try.ntmps90
  go_wp2_with fail
  refine (right_any l _ hl hz _ hU).mono ?_
  rintro e w' ⟨rfl, hb⟩
  go_wp2_with fail
  go_ret
  exact ⟨ret_bool hR.out.symm, hb⟩
/-- what a setting's closure has caught -/
def Caught (l : List Nd) (v : Value) (f s : Int) (B : Nat) (w : World) : Prop :=
  w.cell? ⟨B, 0, none⟩ = some v ∧ w.cell? ⟨B + 1, 0, none⟩ = some (.int .i64 f) ∧ w.cell? ⟨B + 1 + 1, 0, none⟩ = some (.int .i64 s) ∧ B + 1 + 1 < w.heap.size ∧ Nodes l v w
theorem Caught.kept {l : List Nd} {v : Value} {f s : Int} {B : Nat} {w w' : World} (h : Caught l v f s B w) (hb : Below w.heap.size w w') : Caught l v f s B w' := by
  obtain ⟨a, b, c, d, e⟩ := h
  have := hb.size
  exact ⟨cellK hb (by omega) a, cellK hb (by omega) b, cellK hb d c, by omega, e.kept hb⟩
set_option maxHeartbeats 4000000 in
set_option maxRecDepth 100000 in
theorem settings_any (l : List Nd) (v : Value) (f s : Int) (w : World) (hU : Nodes l v w) :
    Calls Try.prog 92 #[v, .int .i64 f, .int .i64 s] w fun e w' => e = .returned (.func (.func 118) #[] #[.pointer (some ⟨w.heap.size, 0, none⟩), .pointer (some ⟨w.heap.size + 1 + 1, 0, none⟩), .pointer (some ⟨w.heap.size + 1, 0, none⟩)]) ∧ Caught l v f s w.heap.size w' ∧ Below w.heap.size w w' := by
  obtain ⟨a, cap, rfl⟩ := hU.len
  have hb0 := (((Below.refl w.heap.size w).alloc (Nat.le_refl _) (.cells #[.slice a l.length cap] 22)).alloc (by simp) (.cells #[.int .i64 f] 3)).alloc (by simp; omega) (.cells #[.int .i64 s] 3)
  have hA := Go.heap_alloc_new w (.cells #[.slice a l.length cap] 22)
  have hB := Go.heap_alloc_new (w.alloc (.cells #[.slice a l.length cap] 22)) (.cells #[.int .i64 f] 3)
  have hC := Go.heap_alloc_new ((w.alloc (.cells #[.slice a l.length cap] 22)).alloc (.cells #[.int .i64 f] 3)) (.cells #[.int .i64 s] 3)
  have s1 : (w.alloc (.cells #[.slice a l.length cap] 22)).heap.size = w.heap.size + 1 := by simp
  have s2 : ((w.alloc (.cells #[.slice a l.length cap] 22)).alloc (.cells #[.int .i64 f] 3)).heap.size = w.heap.size + 1 + 1 := by simp
  have s3 : (((w.alloc (.cells #[.slice a l.length cap] 22)).alloc (.cells #[.int .i64 f] 3)).alloc (.cells #[.int .i64 s] 3)).heap.size = w.heap.size + 1 + 1 + 1 := by simp
  have hA2 := blk_kept ((Below.refl _ (w.alloc (.cells #[.slice a l.length cap] 22))).alloc (Nat.le_refl _) (.cells #[.int .i64 f] 3)) hA
  have hA3 := blk_kept ((Below.refl _ ((w.alloc (.cells #[.slice a l.length cap] 22)).alloc (.cells #[.int .i64 f] 3))).alloc (Nat.le_refl _) (.cells #[.int .i64 s] 3)) hA2
  have hB3 := blk_kept ((Below.refl _ ((w.alloc (.cells #[.slice a l.length cap] 22)).alloc (.cells #[.int .i64 f] 3))).alloc (Nat.le_refl _) (.cells #[.int .i64 s] 3)) hB
  rw [s1] at hB3
  rw [s2] at hC
  have hCa : Caught l (.slice a l.length cap) f s w.heap.size (((w.alloc (.cells #[.slice a l.length cap] 22)).alloc (.cells #[.int .i64 f] 3)).alloc (.cells #[.int .i64 s] 3)) :=
    ⟨by simp only [World.cell?, hA3]; rfl, by simp only [World.cell?, hB3]; rfl, by simp only [World.cell?, hC]; rfl, by omega, hU.kept hb0⟩
  clear hA hB hC s1 s2 s3 hA2 hA3 hB3
  go_enter Try.func92, Try.ntmps92
  go_wp2_with fail
  go_ret
  exact ⟨rfl, hCa, hb0⟩
set_option maxHeartbeats 4000000 in
set_option maxRecDepth 100000 in
theorem setting_any (l : List Nd) (v : Value) (f s : Int) (own other : ByteArray) (hl : l.length ≤ 1000000000000000000) (hz : ∀ x ∈ l, Fits x) (hRP : RightP l) (hf : hasB l f = true) (B : Nat) (w : World) (hC : Caught l v f s B w) :
    Calls Try.prog 118 #[.string own, .string other, .pointer (some ⟨B, 0, none⟩), .pointer (some ⟨B + 1 + 1, 0, none⟩), .pointer (some ⟨B + 1, 0, none⟩)] w fun e w' => e = .returned (.string (setS l f s own other)) ∧ Below w.heap.size w w' := by
  have hC0 := hC
  obtain ⟨c0, c1, c2, hB, hU⟩ := hC
  obtain ⟨a, cap, rfl⟩ := hU.len
  have hA2 := Lib.hid (show attF l f other = atO (atsOf l f) other from if_pos hf)
  cases hfi : fireB l s
  · have HF := Lib.hid hfi
    have hR := Lib.hid (show setS l f s own other = (atO (atsOf l f) other).getD ⟨#[]⟩ by unfold setS setO; rw [hfi]; rfl)
    clear hfi
    go_enter Try.func118, Try.ntmps118
    go_wp2_with fail
    refine (fires24_any l _ s hl hRP _ hU).mono ?_
    rintro e w1 ⟨rfl, hb1⟩
    rw [HF.out]
    obtain ⟨d0, d1, d2, hB1, hU1⟩ := hC0.kept hb1
    go_wp2_with fail
    refine (attr_any l _ f other hl hz _ hU1).mono ?_
    rintro e w2 ⟨rfl, hb2⟩
    rw [hA2.out]
    unfold atT
    go_wp2_with fail
    go_ret
    exact ⟨ret_text hR.out.symm, bs hb1 hb2⟩
  · have HF := Lib.hid hfi
    obtain ⟨i0, i1⟩ := fireB_in hfi
    have hA1 := show attF l s own = atO (atsOf l s) own from if_pos (hasB_yes hRP i0 i1)
    have hS := show setS l f s own other = (match atO (atsOf l s) own with | some v => v | none => (atO (atsOf l f) other).getD ⟨#[]⟩) by unfold setS setO; rw [hfi]; rfl
    cases ha : atO (atsOf l s) own with
    | some y =>
      have HA := Lib.hid (hA1.trans ha)
      rw [ha] at hS
      have hR := Lib.hid (show setS l f s own other = y from hS)
      clear hfi hA1 hS ha
      go_enter Try.func118, Try.ntmps118
      go_wp2_with fail
      refine (fires24_any l _ s hl hRP _ hU).mono ?_
      rintro e w1 ⟨rfl, hb1⟩
      rw [HF.out]
      obtain ⟨d0, d1, d2, hB1, hU1⟩ := hC0.kept hb1
      go_wp2_with fail
      refine (attr_any l _ s own hl hz _ hU1).mono ?_
      rintro e w2 ⟨rfl, hb2⟩
      rw [HA.out]
      unfold atT
      go_wp2_with fail
      go_ret
      exact ⟨ret_text hR.out.symm, bs hb1 hb2⟩
    | none =>
      have HA := Lib.hid (hA1.trans ha)
      rw [ha] at hS
      have hR := Lib.hid (show setS l f s own other = (atO (atsOf l f) other).getD ⟨#[]⟩ from hS)
      clear hfi hA1 hS ha
      go_enter Try.func118, Try.ntmps118
      go_wp2_with fail
      refine (fires24_any l _ s hl hRP _ hU).mono ?_
      rintro e w1 ⟨rfl, hb1⟩
      rw [HF.out]
      obtain ⟨d0, d1, d2, hB1, hU1⟩ := hC0.kept hb1
      go_wp2_with fail
      refine (attr_any l _ s own hl hz _ hU1).mono ?_
      rintro e w2 ⟨rfl, hb2⟩
      rw [HA.out]
      unfold atT
      obtain ⟨e0, e1, e2, hB2, hU2⟩ := (hC0.kept hb1).kept hb2
      go_wp2_with fail
      refine (attr_any l _ f other hl hz _ hU2).mono ?_
      rintro e w3 ⟨rfl, hb3⟩
      rw [hA2.out]
      unfold atT
      go_wp2_with fail
      go_ret
      exact ⟨ret_text hR.out.symm, bs (bs hb1 hb2) hb3⟩
set_option maxHeartbeats 4000000 in
set_option maxRecDepth 100000 in
theorem refSetting_any (l : List Nd) (v : Value) (f s : Int) (own other : ByteArray) (hl : l.length ≤ 1000000000000000000) (hRP : RightP l) (hf : hasB l f = true) (w : World) (hU : Nodes l v w) :
    Calls Try.prog 93 #[v, .int .i64 f, .int .i64 s, .string own, .string other] w fun e w' => e = .returned (.string (setS l f s own other)) ∧ Below w.heap.size w w' := by
  obtain ⟨a, cap, rfl⟩ := hU.len
  obtain ⟨f0, f1, _⟩ := (hasB_iff l f).1 hf
  obtain ⟨F, rfl⟩ := Int.eq_ofNat_of_zero_le f0
  have hfl : F < l.length := by omega
  have hFa := atsOf_at hfl
  have hzF := one_ats (hRP.node F _ (List.getElem?_eq_getElem hfl)).1
  have hUF := Lib.hid (fun W hU' => Nodes.at (w := W) (v := .slice a l.length cap) hU' hfl)
  have hF0 : (0 : Int) ≤ (F : Int) := by omega
  have hF1 : (F : Int) < (l.length : Int) := by omega
  cases hfi : fireB l s
  · have HF := Lib.hid hfi
    have hR := Lib.hid (show setS l (F : Nat) s own other = (atO l[F].ats other).getD ⟨#[]⟩ by unfold setS setO; rw [hfi, hFa]; rfl)
    clear hfi hFa
    generalize l[F] = x at *
    go_enter Try.func93, Try.ntmps93
    go_wp2_with fail
    refine (refFires24_any l _ s hl hRP _ hU).mono ?_
    rintro e w1 ⟨rfl, hb1⟩
    rw [HF.out]
    obtain ⟨b, o, cap', va, vk, hv, hb, c0, c1, c2, c3, c4, hat, hks⟩ := hUF.out _ (hU.kept hb1)
    cases hv
    go_wp2_with fail
    refine (refAttr14_any x.ats _ other (by omega) _ hat).mono ?_
    rintro e w2 ⟨rfl, rfl⟩
    unfold atT
    go_wp2_with fail
    go_ret
    exact ⟨ret_text hR.out.symm, hb1⟩
  · have HF := Lib.hid hfi
    obtain ⟨i0, i1⟩ := fireB_in hfi
    obtain ⟨K, rfl⟩ := Int.eq_ofNat_of_zero_le i0
    have hkl : K < l.length := by omega
    have hS := show setS l (F : Nat) (K : Nat) own other = (match atO (atsOf l (K : Nat)) own with | some v => v | none => (atO (atsOf l (F : Nat)) other).getD ⟨#[]⟩) by unfold setS setO; rw [hfi]; rfl
    rw [atsOf_at hkl, hFa] at hS
    have hzK := one_ats (hRP.node K _ (List.getElem?_eq_getElem hkl)).1
    have hUK := Lib.hid (fun W hU' => Nodes.at (w := W) (v := .slice a l.length cap) hU' hkl)
    have hK0 : (0 : Int) ≤ (K : Int) := by omega
    have hK1 : (K : Int) < (l.length : Int) := by omega
    clear hfi hFa
    generalize l[F] = x at *
    generalize l[K] = y at *
    cases ha : atO y.ats own with
    | some z =>
      have HA := Lib.hid ha
      have HA2 := Lib.hid (show (atO y.ats own).isSome = true by rw [ha]; rfl)
      rw [ha] at hS
      have hR := Lib.hid (show setS l (F : Nat) (K : Nat) own other = z from hS)
      clear hS ha
      go_enter Try.func93, Try.ntmps93
      go_wp2_with fail
      refine (refFires24_any l _ _ hl hRP _ hU).mono ?_
      rintro e w1 ⟨rfl, hb1⟩
      rw [HF.out]
      obtain ⟨b, o, cap', va, vk, hv, hb, c0, c1, c2, c3, c4, hat, hks⟩ := hUK.out _ (hU.kept hb1)
      cases hv
      obtain ⟨a1, cap1, rfl⟩ := hat.len
      obtain ⟨a2, cap2, rfl⟩ := hks.len
      go_wp2_with fail
      refine (refHas15_any y _ _ own (by omega) _ hat).mono ?_
      rintro e w2 ⟨rfl, hb2⟩
      rw [HA2.out]
      have e2 := cellK hb2 hb c2
      go_wp2_with fail
      refine (refAttr14_any y.ats _ own (by omega) _ (hat.kept hb2)).mono ?_
      rintro e w3 ⟨rfl, rfl⟩
      rw [HA.out]
      unfold atT
      go_wp2_with fail
      go_ret
      exact ⟨ret_text hR.out.symm, bs hb1 hb2⟩
    | none =>
      have HA2 := Lib.hid (show (atO y.ats own).isSome = false by rw [ha]; rfl)
      rw [ha] at hS
      have hR := Lib.hid (show setS l (F : Nat) (K : Nat) own other = (atO x.ats other).getD ⟨#[]⟩ from hS)
      clear hS ha
      go_enter Try.func93, Try.ntmps93
      go_wp2_with fail
      refine (refFires24_any l _ _ hl hRP _ hU).mono ?_
      rintro e w1 ⟨rfl, hb1⟩
      rw [HF.out]
      obtain ⟨b, o, cap', va, vk, hv, hb, c0, c1, c2, c3, c4, hat, hks⟩ := hUK.out _ (hU.kept hb1)
      cases hv
      obtain ⟨a1, cap1, rfl⟩ := hat.len
      obtain ⟨a2, cap2, rfl⟩ := hks.len
      go_wp2_with fail
      refine (refHas15_any y _ _ own (by omega) _ hat).mono ?_
      rintro e w2 ⟨rfl, hb2⟩
      rw [HA2.out]
      obtain ⟨b5, o5, cap5, va5, vk5, hv, hb5, g0, g1, g2, g3, g4, hat5, hks5⟩ := hUF.out _ (hU.kept (bs hb1 hb2))
      cases hv
      go_wp2_with fail
      refine (refAttr14_any x.ats _ other (by omega) _ hat5).mono ?_
      rintro e w3 ⟨rfl, rfl⟩
      unfold atT
      go_wp2_with fail
      go_ret
      exact ⟨ret_text hR.out.symm, bs hb1 hb2⟩
set_option maxHeartbeats 4000000 in
set_option maxRecDepth 100000 in
theorem method_any (l : List Nd) (v : Value) (f s : Int) (hl : l.length ≤ 1000000000000000000) (hz : ∀ x ∈ l, Fits x) (w : World) (hU : Nodes l v w) :
    Calls Try.prog 41 #[v, .int .i64 f, .int .i64 s] w fun e w' => e = .returned (.string (methF l f s)) ∧ Below w.heap.size w w' := by
  obtain ⟨a, cap, rfl⟩ := hU.len
  cases hh : hasB l f
  · have HH := Lib.hid hh
    have hR := Lib.hid (show methF l f s = ⟨#[]⟩ from if_neg (by rw [hh]; exact Bool.false_ne_true))
    clear hh
    go_enter Try.func41, Try.ntmps41
    go_wp2_with fail
    refine (there_any l _ f hl hz _ hU).mono ?_
    rintro e w1 ⟨rfl, hb1⟩
    rw [HH.out]
    go_wp2_with fail
    go_ret
    exact ⟨ret_text hR.out.symm, hb1⟩
  have HH := Lib.hid hh
  have hRP := ((hasB_iff l f).1 hh).2.2
  have hsz := setS_size hRP f s ⟨#[102, 111, 114, 109, 109, 101, 116, 104, 111, 100]⟩ ⟨#[109, 101, 116, 104, 111, 100]⟩
  have hM := show methF l f s = (if lowS (setS l f s ⟨#[102, 111, 114, 109, 109, 101, 116, 104, 111, 100]⟩ ⟨#[109, 101, 116, 104, 111, 100]⟩) = ⟨#[112, 111, 115, 116]⟩ ∨ lowS (setS l f s ⟨#[102, 111, 114, 109, 109, 101, 116, 104, 111, 100]⟩ ⟨#[109, 101, 116, 104, 111, 100]⟩) = ⟨#[100, 105, 97, 108, 111, 103]⟩ then lowS (setS l f s ⟨#[102, 111, 114, 109, 109, 101, 116, 104, 111, 100]⟩ ⟨#[109, 101, 116, 104, 111, 100]⟩) else ⟨#[103, 101, 116]⟩) from if_pos hh
  have eg := enters_of Try.func118 (by kernel_rfl) rfl
  obtain ⟨y, hy⟩ : ∃ y, lowS (setS l f s ⟨#[102, 111, 114, 109, 109, 101, 116, 104, 111, 100]⟩ ⟨#[109, 101, 116, 104, 111, 100]⟩) = y := ⟨_, rfl⟩
  rw [hy] at hM
  have HV := Lib.hid (show (ByteArray.mk (low (setS l f s ⟨#[102, 111, 114, 109, 109, 101, 116, 104, 111, 100]⟩ ⟨#[109, 101, 116, 104, 111, 100]⟩).data.toList).toArray) = y from hy)
  clear hh hy
  by_cases h1 : y = ⟨#[112, 111, 115, 116]⟩
  · have hR := Lib.hid (show methF l f s = y from hM.trans (if_pos (Or.inl h1)))
    have q1 := sTrue h1
    rw [post_toList] at q1
    have HQ1 := Lib.hid q1
    clear hM h1 q1
    go_enter Try.func41, Try.ntmps41
    go_wp2_with fail
    refine (there_any l _ f hl hz _ hU).mono ?_
    rintro e w1 ⟨rfl, hb1⟩
    rw [HH.out]
    go_wp2_with fail
    refine (settings_any l _ f s _ (hU.kept hb1)).mono ?_
    rintro e w2 ⟨rfl, hC2, hb2⟩
    go_wp2_with fail
    refine (setting_any l _ f s ⟨#[102, 111, 114, 109, 109, 101, 116, 104, 111, 100]⟩ ⟨#[109, 101, 116, 104, 111, 100]⟩ hl hz hRP HH.out _ _ hC2).mono ?_
    rintro e w3 ⟨rfl, hb3⟩
    have hb03 := bs (bs hb1 hb2) hb3
    go_wp2_with fail
    refine (lower_any _ _ (by omega)).mono ?_
    rw [HV.out]
    rintro e w4 ⟨rfl, hb4⟩
    have q1 := HQ1.out
    go_wp2_with fail
    go_ret
    exact ⟨ret_text hR.out.symm, bs hb03 hb4⟩
  · have q1 := sFalse h1
    rw [post_toList] at q1
    have HQ1 := Lib.hid q1
    clear q1
    by_cases h2 : y = ⟨#[100, 105, 97, 108, 111, 103]⟩
    · have hR := Lib.hid (show methF l f s = y from hM.trans (if_pos (Or.inr h2)))
      have q2 := sTrue h2
      rw [dia_toList] at q2
      have HQ2 := Lib.hid q2
      clear hM h1 h2 q2
      go_enter Try.func41, Try.ntmps41
      go_wp2_with fail
      refine (there_any l _ f hl hz _ hU).mono ?_
      rintro e w1 ⟨rfl, hb1⟩
      rw [HH.out]
      go_wp2_with fail
      refine (settings_any l _ f s _ (hU.kept hb1)).mono ?_
      rintro e w2 ⟨rfl, hC2, hb2⟩
      go_wp2_with fail
      refine (setting_any l _ f s ⟨#[102, 111, 114, 109, 109, 101, 116, 104, 111, 100]⟩ ⟨#[109, 101, 116, 104, 111, 100]⟩ hl hz hRP HH.out _ _ hC2).mono ?_
      rintro e w3 ⟨rfl, hb3⟩
      have hb03 := bs (bs hb1 hb2) hb3
      go_wp2_with fail
      refine (lower_any _ _ (by omega)).mono ?_
      rw [HV.out]
      rintro e w4 ⟨rfl, hb4⟩
      have q1 := HQ1.out
      have q2 := HQ2.out
      go_wp2_with fail
      go_ret
      exact ⟨ret_text hR.out.symm, bs hb03 hb4⟩
    · have hR := Lib.hid (show methF l f s = ⟨#[103, 101, 116]⟩ from hM.trans (if_neg (fun h => h.elim h1 h2)))
      have q2 := sFalse h2
      rw [dia_toList] at q2
      have HQ2 := Lib.hid q2
      clear hM h1 h2 q2
      go_enter Try.func41, Try.ntmps41
      go_wp2_with fail
      refine (there_any l _ f hl hz _ hU).mono ?_
      rintro e w1 ⟨rfl, hb1⟩
      rw [HH.out]
      go_wp2_with fail
      refine (settings_any l _ f s _ (hU.kept hb1)).mono ?_
      rintro e w2 ⟨rfl, hC2, hb2⟩
      go_wp2_with fail
      refine (setting_any l _ f s ⟨#[102, 111, 114, 109, 109, 101, 116, 104, 111, 100]⟩ ⟨#[109, 101, 116, 104, 111, 100]⟩ hl hz hRP HH.out _ _ hC2).mono ?_
      rintro e w3 ⟨rfl, hb3⟩
      have hb03 := bs (bs hb1 hb2) hb3
      go_wp2_with fail
      refine (lower_any _ _ (by omega)).mono ?_
      rw [HV.out]
      rintro e w4 ⟨rfl, hb4⟩
      have q1 := HQ1.out
      have q2 := HQ2.out
      go_wp2_with fail
      go_ret
      exact ⟨ret_text hR.out.symm, bs hb03 hb4⟩
set_option maxHeartbeats 4000000 in
set_option maxRecDepth 100000 in
theorem refMethod_any (l : List Nd) (v : Value) (f s : Int) (hl : l.length ≤ 1000000000000000000) (hz : ∀ x ∈ l, Fits x) (w : World) (hU : Nodes l v w) :
    Calls Try.prog 42 #[v, .int .i64 f, .int .i64 s] w fun e w' => e = .returned (.string (methF l f s)) ∧ Below w.heap.size w w' := by
  obtain ⟨a, cap, rfl⟩ := hU.len
  cases hh : hasB l f
  · have HH := Lib.hid hh
    have hR := Lib.hid (show methF l f s = ⟨#[]⟩ from if_neg (by rw [hh]; exact Bool.false_ne_true))
    clear hh
    go_enter Try.func42, Try.ntmps42
    go_wp2_with fail
    refine (refHas10_any l _ f hl hz _ hU).mono ?_
    rintro e w1 ⟨rfl, hb1⟩
    rw [HH.out]
    go_wp2_with fail
    go_ret
    exact ⟨ret_text hR.out.symm, hb1⟩
  have HH := Lib.hid hh
  have hRP := ((hasB_iff l f).1 hh).2.2
  have hsz := setS_size hRP f s ⟨#[102, 111, 114, 109, 109, 101, 116, 104, 111, 100]⟩ ⟨#[109, 101, 116, 104, 111, 100]⟩
  have hM := show methF l f s = (if lowS (setS l f s ⟨#[102, 111, 114, 109, 109, 101, 116, 104, 111, 100]⟩ ⟨#[109, 101, 116, 104, 111, 100]⟩) = ⟨#[112, 111, 115, 116]⟩ ∨ lowS (setS l f s ⟨#[102, 111, 114, 109, 109, 101, 116, 104, 111, 100]⟩ ⟨#[109, 101, 116, 104, 111, 100]⟩) = ⟨#[100, 105, 97, 108, 111, 103]⟩ then lowS (setS l f s ⟨#[102, 111, 114, 109, 109, 101, 116, 104, 111, 100]⟩ ⟨#[109, 101, 116, 104, 111, 100]⟩) else ⟨#[103, 101, 116]⟩) from if_pos hh
  obtain ⟨y, hy⟩ : ∃ y, lowS (setS l f s ⟨#[102, 111, 114, 109, 109, 101, 116, 104, 111, 100]⟩ ⟨#[109, 101, 116, 104, 111, 100]⟩) = y := ⟨_, rfl⟩
  rw [hy] at hM
  have HV := Lib.hid (show (ByteArray.mk (low (setS l f s ⟨#[102, 111, 114, 109, 109, 101, 116, 104, 111, 100]⟩ ⟨#[109, 101, 116, 104, 111, 100]⟩).data.toList).toArray) = y from hy)
  clear hh hy
  by_cases h1 : y = ⟨#[112, 111, 115, 116]⟩
  · have hR := Lib.hid (show methF l f s = y from hM.trans (if_pos (Or.inl h1)))
    have q1 := sTrue h1
    rw [post_toList] at q1
    have HQ1 := Lib.hid q1
    clear hM h1 q1
    go_enter Try.func42, Try.ntmps42
    go_wp2_with fail
    refine (refHas10_any l _ f hl hz _ hU).mono ?_
    rintro e w1 ⟨rfl, hb1⟩
    rw [HH.out]
    go_wp2_with fail
    refine (refSetting_any l _ f s ⟨#[102, 111, 114, 109, 109, 101, 116, 104, 111, 100]⟩ ⟨#[109, 101, 116, 104, 111, 100]⟩ hl hRP HH.out _ (hU.kept hb1)).mono ?_
    rintro e w3 ⟨rfl, hb3⟩
    have hb03 := bs hb1 hb3
    go_wp2_with fail
    refine (refLower_any _ _ (by omega)).mono ?_
    rw [HV.out]
    rintro e w4 ⟨rfl, hb4⟩
    have q1 := HQ1.out
    go_wp2_with fail
    go_ret
    exact ⟨ret_text hR.out.symm, bs hb03 hb4⟩
  · have q1 := sFalse h1
    rw [post_toList] at q1
    have HQ1 := Lib.hid q1
    clear q1
    by_cases h2 : y = ⟨#[100, 105, 97, 108, 111, 103]⟩
    · have hR := Lib.hid (show methF l f s = y from hM.trans (if_pos (Or.inr h2)))
      have q2 := sTrue h2
      rw [dia_toList] at q2
      have HQ2 := Lib.hid q2
      clear hM h1 h2 q2
      go_enter Try.func42, Try.ntmps42
      go_wp2_with fail
      refine (refHas10_any l _ f hl hz _ hU).mono ?_
      rintro e w1 ⟨rfl, hb1⟩
      rw [HH.out]
      go_wp2_with fail
      refine (refSetting_any l _ f s ⟨#[102, 111, 114, 109, 109, 101, 116, 104, 111, 100]⟩ ⟨#[109, 101, 116, 104, 111, 100]⟩ hl hRP HH.out _ (hU.kept hb1)).mono ?_
      rintro e w3 ⟨rfl, hb3⟩
      have hb03 := bs hb1 hb3
      go_wp2_with fail
      refine (refLower_any _ _ (by omega)).mono ?_
      rw [HV.out]
      rintro e w4 ⟨rfl, hb4⟩
      have q1 := HQ1.out
      have q2 := HQ2.out
      go_wp2_with fail
      go_ret
      exact ⟨ret_text hR.out.symm, bs hb03 hb4⟩
    · have hR := Lib.hid (show methF l f s = ⟨#[103, 101, 116]⟩ from hM.trans (if_neg (fun h => h.elim h1 h2)))
      have q2 := sFalse h2
      rw [dia_toList] at q2
      have HQ2 := Lib.hid q2
      clear hM h1 h2 q2
      go_enter Try.func42, Try.ntmps42
      go_wp2_with fail
      refine (refHas10_any l _ f hl hz _ hU).mono ?_
      rintro e w1 ⟨rfl, hb1⟩
      rw [HH.out]
      go_wp2_with fail
      refine (refSetting_any l _ f s ⟨#[102, 111, 114, 109, 109, 101, 116, 104, 111, 100]⟩ ⟨#[109, 101, 116, 104, 111, 100]⟩ hl hRP HH.out _ (hU.kept hb1)).mono ?_
      rintro e w3 ⟨rfl, hb3⟩
      have hb03 := bs hb1 hb3
      go_wp2_with fail
      refine (refLower_any _ _ (by omega)).mono ?_
      rw [HV.out]
      rintro e w4 ⟨rfl, hb4⟩
      have q1 := HQ1.out
      have q2 := HQ2.out
      go_wp2_with fail
      go_ret
      exact ⟨ret_text hR.out.symm, bs hb03 hb4⟩
set_option maxHeartbeats 4000000 in
set_option maxRecDepth 100000 in
theorem kind24_any (l : List Nd) (v : Value) (f s : Int) (hl : l.length ≤ 1000000000000000000) (hz : ∀ x ∈ l, Fits x) (w : World) (hU : Nodes l v w) :
    Calls Try.prog 43 #[v, .int .i64 f, .int .i64 s] w fun e w' => e = .returned (.int .i64 (kinF l f s)) ∧ Below w.heap.size w w' := by
  obtain ⟨a, cap, rfl⟩ := hU.len
  cases hh : hasB l f
  · have HH := Lib.hid hh
    have hR := Lib.hid (show kinF l f s = 0 from if_neg (by rw [hh]; exact Bool.false_ne_true))
    clear hh
    go_enter Try.func43, Try.ntmps43
    go_wp2_with fail
    refine (there_any l _ f hl hz _ hU).mono ?_
    rintro e w1 ⟨rfl, hb1⟩
    rw [HH.out]
    go_wp2_with fail
    go_ret
    exact ⟨ret_int hR.out.symm, hb1⟩
  have HH := Lib.hid hh
  have hRP := ((hasB_iff l f).1 hh).2.2
  have hsz := setS_size hRP f s ⟨#[102, 111, 114, 109, 101, 110, 99, 116, 121, 112, 101]⟩ ⟨#[101, 110, 99, 116, 121, 112, 101]⟩
  have hM := show kinF l f s = (if lowS (setS l f s ⟨#[102, 111, 114, 109, 101, 110, 99, 116, 121, 112, 101]⟩ ⟨#[101, 110, 99, 116, 121, 112, 101]⟩) = ⟨#[109, 117, 108, 116, 105, 112, 97, 114, 116, 47, 102, 111, 114, 109, 45, 100, 97, 116, 97]⟩ then 2 else if lowS (setS l f s ⟨#[102, 111, 114, 109, 101, 110, 99, 116, 121, 112, 101]⟩ ⟨#[101, 110, 99, 116, 121, 112, 101]⟩) = ⟨#[116, 101, 120, 116, 47, 112, 108, 97, 105, 110]⟩ then 3 else 1) from if_pos hh
  have eg := enters_of Try.func118 (by kernel_rfl) rfl
  obtain ⟨y, hy⟩ : ∃ y, lowS (setS l f s ⟨#[102, 111, 114, 109, 101, 110, 99, 116, 121, 112, 101]⟩ ⟨#[101, 110, 99, 116, 121, 112, 101]⟩) = y := ⟨_, rfl⟩
  rw [hy] at hM
  have HV := Lib.hid (show (ByteArray.mk (low (setS l f s ⟨#[102, 111, 114, 109, 101, 110, 99, 116, 121, 112, 101]⟩ ⟨#[101, 110, 99, 116, 121, 112, 101]⟩).data.toList).toArray) = y from hy)
  clear hh hy
  by_cases h1 : y = ⟨#[109, 117, 108, 116, 105, 112, 97, 114, 116, 47, 102, 111, 114, 109, 45, 100, 97, 116, 97]⟩
  · have hR := Lib.hid (show kinF l f s = 2 from hM.trans (if_pos h1))
    have q1 := sTrue h1
    rw [mul_toList] at q1
    have HQ1 := Lib.hid q1
    clear hM h1 q1
    go_enter Try.func43, Try.ntmps43
    go_wp2_with fail
    refine (there_any l _ f hl hz _ hU).mono ?_
    rintro e w1 ⟨rfl, hb1⟩
    rw [HH.out]
    go_wp2_with fail
    refine (settings_any l _ f s _ (hU.kept hb1)).mono ?_
    rintro e w2 ⟨rfl, hC2, hb2⟩
    go_wp2_with fail
    refine (setting_any l _ f s ⟨#[102, 111, 114, 109, 101, 110, 99, 116, 121, 112, 101]⟩ ⟨#[101, 110, 99, 116, 121, 112, 101]⟩ hl hz hRP HH.out _ _ hC2).mono ?_
    rintro e w3 ⟨rfl, hb3⟩
    have hb03 := bs (bs hb1 hb2) hb3
    go_wp2_with fail
    refine (lower_any _ _ (by omega)).mono ?_
    rw [HV.out]
    rintro e w4 ⟨rfl, hb4⟩
    have q1 := HQ1.out
    go_wp2_with fail
    go_ret
    exact ⟨ret_int hR.out.symm, bs hb03 hb4⟩
  · have q1 := sFalse h1
    rw [mul_toList] at q1
    have HQ1 := Lib.hid q1
    clear q1
    by_cases h2 : y = ⟨#[116, 101, 120, 116, 47, 112, 108, 97, 105, 110]⟩
    · have hR := Lib.hid (show kinF l f s = 3 from hM.trans ((if_neg h1).trans (if_pos h2)))
      have q2 := sTrue h2
      rw [pla_toList] at q2
      have HQ2 := Lib.hid q2
      clear hM h1 h2 q2
      go_enter Try.func43, Try.ntmps43
      go_wp2_with fail
      refine (there_any l _ f hl hz _ hU).mono ?_
      rintro e w1 ⟨rfl, hb1⟩
      rw [HH.out]
      go_wp2_with fail
      refine (settings_any l _ f s _ (hU.kept hb1)).mono ?_
      rintro e w2 ⟨rfl, hC2, hb2⟩
      go_wp2_with fail
      refine (setting_any l _ f s ⟨#[102, 111, 114, 109, 101, 110, 99, 116, 121, 112, 101]⟩ ⟨#[101, 110, 99, 116, 121, 112, 101]⟩ hl hz hRP HH.out _ _ hC2).mono ?_
      rintro e w3 ⟨rfl, hb3⟩
      have hb03 := bs (bs hb1 hb2) hb3
      go_wp2_with fail
      refine (lower_any _ _ (by omega)).mono ?_
      rw [HV.out]
      rintro e w4 ⟨rfl, hb4⟩
      have q1 := HQ1.out
      have q2 := HQ2.out
      go_wp2_with fail
      go_ret
      exact ⟨ret_int hR.out.symm, bs hb03 hb4⟩
    · have hR := Lib.hid (show kinF l f s = 1 from hM.trans ((if_neg h1).trans (if_neg h2)))
      have q2 := sFalse h2
      rw [pla_toList] at q2
      have HQ2 := Lib.hid q2
      clear hM h1 h2 q2
      go_enter Try.func43, Try.ntmps43
      go_wp2_with fail
      refine (there_any l _ f hl hz _ hU).mono ?_
      rintro e w1 ⟨rfl, hb1⟩
      rw [HH.out]
      go_wp2_with fail
      refine (settings_any l _ f s _ (hU.kept hb1)).mono ?_
      rintro e w2 ⟨rfl, hC2, hb2⟩
      go_wp2_with fail
      refine (setting_any l _ f s ⟨#[102, 111, 114, 109, 101, 110, 99, 116, 121, 112, 101]⟩ ⟨#[101, 110, 99, 116, 121, 112, 101]⟩ hl hz hRP HH.out _ _ hC2).mono ?_
      rintro e w3 ⟨rfl, hb3⟩
      have hb03 := bs (bs hb1 hb2) hb3
      go_wp2_with fail
      refine (lower_any _ _ (by omega)).mono ?_
      rw [HV.out]
      rintro e w4 ⟨rfl, hb4⟩
      have q1 := HQ1.out
      have q2 := HQ2.out
      go_wp2_with fail
      go_ret
      exact ⟨ret_int hR.out.symm, bs hb03 hb4⟩
set_option maxHeartbeats 4000000 in
set_option maxRecDepth 100000 in
theorem refKind24_any (l : List Nd) (v : Value) (f s : Int) (hl : l.length ≤ 1000000000000000000) (hz : ∀ x ∈ l, Fits x) (w : World) (hU : Nodes l v w) :
    Calls Try.prog 44 #[v, .int .i64 f, .int .i64 s] w fun e w' => e = .returned (.int .i64 (kinF l f s)) ∧ Below w.heap.size w w' := by
  obtain ⟨a, cap, rfl⟩ := hU.len
  cases hh : hasB l f
  · have HH := Lib.hid hh
    have hR := Lib.hid (show kinF l f s = 0 from if_neg (by rw [hh]; exact Bool.false_ne_true))
    clear hh
    go_enter Try.func44, Try.ntmps44
    go_wp2_with fail
    refine (refHas10_any l _ f hl hz _ hU).mono ?_
    rintro e w1 ⟨rfl, hb1⟩
    rw [HH.out]
    go_wp2_with fail
    go_ret
    exact ⟨ret_int hR.out.symm, hb1⟩
  have HH := Lib.hid hh
  have hRP := ((hasB_iff l f).1 hh).2.2
  have hsz := setS_size hRP f s ⟨#[102, 111, 114, 109, 101, 110, 99, 116, 121, 112, 101]⟩ ⟨#[101, 110, 99, 116, 121, 112, 101]⟩
  have hM := show kinF l f s = (if lowS (setS l f s ⟨#[102, 111, 114, 109, 101, 110, 99, 116, 121, 112, 101]⟩ ⟨#[101, 110, 99, 116, 121, 112, 101]⟩) = ⟨#[109, 117, 108, 116, 105, 112, 97, 114, 116, 47, 102, 111, 114, 109, 45, 100, 97, 116, 97]⟩ then 2 else if lowS (setS l f s ⟨#[102, 111, 114, 109, 101, 110, 99, 116, 121, 112, 101]⟩ ⟨#[101, 110, 99, 116, 121, 112, 101]⟩) = ⟨#[116, 101, 120, 116, 47, 112, 108, 97, 105, 110]⟩ then 3 else 1) from if_pos hh
  obtain ⟨y, hy⟩ : ∃ y, lowS (setS l f s ⟨#[102, 111, 114, 109, 101, 110, 99, 116, 121, 112, 101]⟩ ⟨#[101, 110, 99, 116, 121, 112, 101]⟩) = y := ⟨_, rfl⟩
  rw [hy] at hM
  have HV := Lib.hid (show (ByteArray.mk (low (setS l f s ⟨#[102, 111, 114, 109, 101, 110, 99, 116, 121, 112, 101]⟩ ⟨#[101, 110, 99, 116, 121, 112, 101]⟩).data.toList).toArray) = y from hy)
  clear hh hy
  by_cases h1 : y = ⟨#[109, 117, 108, 116, 105, 112, 97, 114, 116, 47, 102, 111, 114, 109, 45, 100, 97, 116, 97]⟩
  · have hR := Lib.hid (show kinF l f s = 2 from hM.trans (if_pos h1))
    have q1 := sTrue h1
    rw [mul_toList] at q1
    have HQ1 := Lib.hid q1
    clear hM h1 q1
    go_enter Try.func44, Try.ntmps44
    go_wp2_with fail
    refine (refHas10_any l _ f hl hz _ hU).mono ?_
    rintro e w1 ⟨rfl, hb1⟩
    rw [HH.out]
    go_wp2_with fail
    refine (refSetting_any l _ f s ⟨#[102, 111, 114, 109, 101, 110, 99, 116, 121, 112, 101]⟩ ⟨#[101, 110, 99, 116, 121, 112, 101]⟩ hl hRP HH.out _ (hU.kept hb1)).mono ?_
    rintro e w3 ⟨rfl, hb3⟩
    have hb03 := bs hb1 hb3
    go_wp2_with fail
    refine (refLower_any _ _ (by omega)).mono ?_
    rw [HV.out]
    rintro e w4 ⟨rfl, hb4⟩
    have q1 := HQ1.out
    go_wp2_with fail
    go_ret
    exact ⟨ret_int hR.out.symm, bs hb03 hb4⟩
  · have q1 := sFalse h1
    rw [mul_toList] at q1
    have HQ1 := Lib.hid q1
    clear q1
    by_cases h2 : y = ⟨#[116, 101, 120, 116, 47, 112, 108, 97, 105, 110]⟩
    · have hR := Lib.hid (show kinF l f s = 3 from hM.trans ((if_neg h1).trans (if_pos h2)))
      have q2 := sTrue h2
      rw [pla_toList] at q2
      have HQ2 := Lib.hid q2
      clear hM h1 h2 q2
      go_enter Try.func44, Try.ntmps44
      go_wp2_with fail
      refine (refHas10_any l _ f hl hz _ hU).mono ?_
      rintro e w1 ⟨rfl, hb1⟩
      rw [HH.out]
      go_wp2_with fail
      refine (refSetting_any l _ f s ⟨#[102, 111, 114, 109, 101, 110, 99, 116, 121, 112, 101]⟩ ⟨#[101, 110, 99, 116, 121, 112, 101]⟩ hl hRP HH.out _ (hU.kept hb1)).mono ?_
      rintro e w3 ⟨rfl, hb3⟩
      have hb03 := bs hb1 hb3
      go_wp2_with fail
      refine (refLower_any _ _ (by omega)).mono ?_
      rw [HV.out]
      rintro e w4 ⟨rfl, hb4⟩
      have q1 := HQ1.out
      have q2 := HQ2.out
      go_wp2_with fail
      go_ret
      exact ⟨ret_int hR.out.symm, bs hb03 hb4⟩
    · have hR := Lib.hid (show kinF l f s = 1 from hM.trans ((if_neg h1).trans (if_neg h2)))
      have q2 := sFalse h2
      rw [pla_toList] at q2
      have HQ2 := Lib.hid q2
      clear hM h1 h2 q2
      go_enter Try.func44, Try.ntmps44
      go_wp2_with fail
      refine (refHas10_any l _ f hl hz _ hU).mono ?_
      rintro e w1 ⟨rfl, hb1⟩
      rw [HH.out]
      go_wp2_with fail
      refine (refSetting_any l _ f s ⟨#[102, 111, 114, 109, 101, 110, 99, 116, 121, 112, 101]⟩ ⟨#[101, 110, 99, 116, 121, 112, 101]⟩ hl hRP HH.out _ (hU.kept hb1)).mono ?_
      rintro e w3 ⟨rfl, hb3⟩
      have hb03 := bs hb1 hb3
      go_wp2_with fail
      refine (refLower_any _ _ (by omega)).mono ?_
      rw [HV.out]
      rintro e w4 ⟨rfl, hb4⟩
      have q1 := HQ1.out
      have q2 := HQ2.out
      go_wp2_with fail
      go_ret
      exact ⟨ret_int hR.out.symm, bs hb03 hb4⟩
set_option maxHeartbeats 4000000 in
set_option maxRecDepth 100000 in
theorem asks_any (l : List Nd) (v : Value) (f s : Int) (hl : l.length ≤ 1000000000000000000) (hz : ∀ x ∈ l, Fits x) (w : World) (hU : Nodes l v w) :
    Calls Try.prog 45 #[v, .int .i64 f, .int .i64 s] w fun e w' => e = .returned (.bool (asksF l f s)) ∧ Below w.heap.size w w' := by
  obtain ⟨a, cap, rfl⟩ := hU.len
  have hA := show asksF l f s = (hasB l f && (!(atO (atsOf l f) ⟨#[110, 111, 118, 97, 108, 105, 100, 97, 116, 101]⟩).isSome && !(fireB l s && (atO (atsOf l s) ⟨#[102, 111, 114, 109, 110, 111, 118, 97, 108, 105, 100, 97, 116, 101]⟩).isSome))) from rfl
  cases hh : hasB l f
  · have HH := Lib.hid hh
    have hR := Lib.hid (show asksF l f s = false by rw [hA, hh]; rfl)
    clear hh hA
    go_enter Try.func45, Try.ntmps45
    go_wp2_with fail
    refine (there_any l _ f hl hz _ hU).mono ?_
    rintro e w1 ⟨rfl, hb1⟩
    rw [HH.out]
    go_wp2_with fail
    go_ret
    exact ⟨ret_bool hR.out.symm, hb1⟩
  have HH := Lib.hid hh
  have hRP := ((hasB_iff l f).1 hh).2.2
  rw [hh, Bool.true_and] at hA
  have hF := show attF l f ⟨#[110, 111, 118, 97, 108, 105, 100, 97, 116, 101]⟩ = atO (atsOf l f) ⟨#[110, 111, 118, 97, 108, 105, 100, 97, 116, 101]⟩ from if_pos hh
  clear hh
  cases ha : atO (atsOf l f) ⟨#[110, 111, 118, 97, 108, 105, 100, 97, 116, 101]⟩ with
  | some y =>
    have HA := Lib.hid (hF.trans ha)
    have hR := Lib.hid (show asksF l f s = false by rw [hA, ha]; rfl)
    clear ha hF hA
    go_enter Try.func45, Try.ntmps45
    go_wp2_with fail
    refine (there_any l _ f hl hz _ hU).mono ?_
    rintro e w1 ⟨rfl, hb1⟩
    rw [HH.out]
    go_wp2_with fail
    refine (attr_any l _ f ⟨#[110, 111, 118, 97, 108, 105, 100, 97, 116, 101]⟩ hl hz _ (hU.kept hb1)).mono ?_
    rintro e w2 ⟨rfl, hb2⟩
    rw [HA.out]
    unfold atT
    go_wp2_with fail
    go_ret
    exact ⟨ret_bool hR.out.symm, bs hb1 hb2⟩
  | none =>
    have HA := Lib.hid (hF.trans ha)
    rw [ha] at hA
    have hA : asksF l f s = !(fireB l s && (atO (atsOf l s) ⟨#[102, 111, 114, 109, 110, 111, 118, 97, 108, 105, 100, 97, 116, 101]⟩).isSome) := hA
    clear ha hF
    cases hx : attF l s ⟨#[102, 111, 114, 109, 110, 111, 118, 97, 108, 105, 100, 97, 116, 101]⟩ with
    | none =>
      have HX := Lib.hid hx
      have hR := Lib.hid (show asksF l f s = true by
        rw [hA]
        cases hfi : fireB l s
        · rfl
        · obtain ⟨i0, i1⟩ := fireB_in hfi
          have e : attF l s ⟨#[102, 111, 114, 109, 110, 111, 118, 97, 108, 105, 100, 97, 116, 101]⟩ = atO (atsOf l s) ⟨#[102, 111, 114, 109, 110, 111, 118, 97, 108, 105, 100, 97, 116, 101]⟩ := if_pos (hasB_yes hRP i0 i1)
          rw [← e, hx]; rfl)
      clear hx hA
      go_enter Try.func45, Try.ntmps45
      go_wp2_with fail
      refine (there_any l _ f hl hz _ hU).mono ?_
      rintro e w1 ⟨rfl, hb1⟩
      rw [HH.out]
      go_wp2_with fail
      refine (attr_any l _ f ⟨#[110, 111, 118, 97, 108, 105, 100, 97, 116, 101]⟩ hl hz _ (hU.kept hb1)).mono ?_
      rintro e w2 ⟨rfl, hb2⟩
      rw [HA.out]
      unfold atT
      have hb02 := bs hb1 hb2
      go_wp2_with fail
      refine (attr_any l _ s ⟨#[102, 111, 114, 109, 110, 111, 118, 97, 108, 105, 100, 97, 116, 101]⟩ hl hz _ (hU.kept hb02)).mono ?_
      rintro e w3 ⟨rfl, hb3⟩
      rw [HX.out]
      unfold atT
      go_wp2_with fail
      go_ret
      exact ⟨ret_bool hR.out.symm, bs hb02 hb3⟩
    | some y =>
      have HX := Lib.hid hx
      have hR := Lib.hid (show asksF l f s = !fireB l s by
        rw [hA]
        cases hfi : fireB l s
        · rfl
        · obtain ⟨i0, i1⟩ := fireB_in hfi
          have e : attF l s ⟨#[102, 111, 114, 109, 110, 111, 118, 97, 108, 105, 100, 97, 116, 101]⟩ = atO (atsOf l s) ⟨#[102, 111, 114, 109, 110, 111, 118, 97, 108, 105, 100, 97, 116, 101]⟩ := if_pos (hasB_yes hRP i0 i1)
          rw [← e, hx]; rfl)
      clear hx hA
      go_enter Try.func45, Try.ntmps45
      go_wp2_with fail
      refine (there_any l _ f hl hz _ hU).mono ?_
      rintro e w1 ⟨rfl, hb1⟩
      rw [HH.out]
      go_wp2_with fail
      refine (attr_any l _ f ⟨#[110, 111, 118, 97, 108, 105, 100, 97, 116, 101]⟩ hl hz _ (hU.kept hb1)).mono ?_
      rintro e w2 ⟨rfl, hb2⟩
      rw [HA.out]
      unfold atT
      have hb02 := bs hb1 hb2
      go_wp2_with fail
      refine (attr_any l _ s ⟨#[102, 111, 114, 109, 110, 111, 118, 97, 108, 105, 100, 97, 116, 101]⟩ hl hz _ (hU.kept hb02)).mono ?_
      rintro e w3 ⟨rfl, hb3⟩
      rw [HX.out]
      unfold atT
      go_wp2_with fail
      refine (fires24_any l _ s hl hRP _ (hU.kept (bs hb02 hb3))).mono ?_
      rintro e w4 ⟨rfl, hb4⟩
      go_wp2_with fail
      go_ret
      exact ⟨ret_bool hR.out.symm, bs (bs hb02 hb3) hb4⟩
set_option maxHeartbeats 4000000 in
set_option maxRecDepth 100000 in
theorem refAsks_any (l : List Nd) (v : Value) (f s : Int) (hl : l.length ≤ 1000000000000000000) (hz : ∀ x ∈ l, Fits x) (w : World) (hU : Nodes l v w) :
    Calls Try.prog 46 #[v, .int .i64 f, .int .i64 s] w fun e w' => e = .returned (.bool (asksF l f s)) ∧ Below w.heap.size w w' := by
  obtain ⟨a, cap, rfl⟩ := hU.len
  have hA := show asksF l f s = (hasB l f && (!(atO (atsOf l f) ⟨#[110, 111, 118, 97, 108, 105, 100, 97, 116, 101]⟩).isSome && !(fireB l s && (atO (atsOf l s) ⟨#[102, 111, 114, 109, 110, 111, 118, 97, 108, 105, 100, 97, 116, 101]⟩).isSome))) from rfl
  cases hh : hasB l f
  · have HH := Lib.hid hh
    have hR := Lib.hid (show asksF l f s = false by rw [hA, hh]; rfl)
    clear hh hA
    go_enter Try.func46, Try.ntmps46
    go_wp2_with fail
    refine (refHas10_any l _ f hl hz _ hU).mono ?_
    rintro e w1 ⟨rfl, hb1⟩
    rw [HH.out]
    go_wp2_with fail
    go_ret
    exact ⟨ret_bool hR.out.symm, hb1⟩
  have HH := Lib.hid hh
  obtain ⟨f0, f1, hRP⟩ := (hasB_iff l f).1 hh
  rw [hh, Bool.true_and] at hA
  obtain ⟨F, rfl⟩ := Int.eq_ofNat_of_zero_le f0
  have hfl : F < l.length := by omega
  rw [atsOf_at hfl] at hA
  have hzF := one_ats (hRP.node F _ (List.getElem?_eq_getElem hfl)).1
  have hUF := Lib.hid (fun W hU' => Nodes.at (w := W) (v := .slice a l.length cap) hU' hfl)
  have hF0 : (0 : Int) ≤ (F : Int) := by omega
  have hF1 : (F : Int) < (l.length : Int) := by omega
  generalize l[F] = x at *
  clear hh
  cases ha : (atO x.ats ⟨#[110, 111, 118, 97, 108, 105, 100, 97, 116, 101]⟩).isSome
  case true =>
    have HA := Lib.hid ha
    have hR := Lib.hid (show asksF l (F : Nat) s = false by rw [hA, ha]; rfl)
    clear ha hA
    go_enter Try.func46, Try.ntmps46
    go_wp2_with fail
    refine (refHas10_any l _ _ hl hz _ hU).mono ?_
    rintro e w1 ⟨rfl, hb1⟩
    rw [HH.out]
    obtain ⟨b, o, cap', va, vk, hv, hb, c0, c1, c2, c3, c4, hat, hks⟩ := hUF.out _ (hU.kept hb1)
    cases hv
    obtain ⟨a1, cap1, rfl⟩ := hat.len
    obtain ⟨a2, cap2, rfl⟩ := hks.len
    go_wp2_with fail
    refine (refHas15_any x _ _ ⟨#[110, 111, 118, 97, 108, 105, 100, 97, 116, 101]⟩ (by omega) _ hat).mono ?_
    rintro e w2 ⟨rfl, hb2⟩
    rw [HA.out]
    go_wp2_with fail
    go_ret
    exact ⟨ret_bool hR.out.symm, bs hb1 hb2⟩
  have HA := Lib.hid ha
  rw [ha] at hA
  have hA : asksF l (F : Nat) s = !(fireB l s && (atO (atsOf l s) ⟨#[102, 111, 114, 109, 110, 111, 118, 97, 108, 105, 100, 97, 116, 101]⟩).isSome) := hA
  clear ha
  cases hfi : fireB l s
  case false =>
    have HF := Lib.hid hfi
    have hR := Lib.hid (show asksF l (F : Nat) s = true by rw [hA, hfi]; rfl)
    clear hfi hA
    go_enter Try.func46, Try.ntmps46
    go_wp2_with fail
    refine (refHas10_any l _ _ hl hz _ hU).mono ?_
    rintro e w1 ⟨rfl, hb1⟩
    rw [HH.out]
    obtain ⟨b, o, cap', va, vk, hv, hb, c0, c1, c2, c3, c4, hat, hks⟩ := hUF.out _ (hU.kept hb1)
    cases hv
    obtain ⟨a1, cap1, rfl⟩ := hat.len
    obtain ⟨a2, cap2, rfl⟩ := hks.len
    go_wp2_with fail
    refine (refHas15_any x _ _ ⟨#[110, 111, 118, 97, 108, 105, 100, 97, 116, 101]⟩ (by omega) _ hat).mono ?_
    rintro e w2 ⟨rfl, hb2⟩
    rw [HA.out]
    have hb02 := bs hb1 hb2
    go_wp2_with fail
    refine (refFires24_any l _ s hl hRP _ (hU.kept hb02)).mono ?_
    rintro e w3 ⟨rfl, hb3⟩
    rw [HF.out]
    go_wp2_with fail
    go_ret
    exact ⟨ret_bool hR.out.symm, bs hb02 hb3⟩
  have HF := Lib.hid hfi
  obtain ⟨i0, i1⟩ := fireB_in hfi
  obtain ⟨K, rfl⟩ := Int.eq_ofNat_of_zero_le i0
  have hkl : K < l.length := by omega
  rw [hfi, Bool.true_and, atsOf_at hkl] at hA
  have hzK := one_ats (hRP.node K _ (List.getElem?_eq_getElem hkl)).1
  have hUK := Lib.hid (fun W hU' => Nodes.at (w := W) (v := .slice a l.length cap) hU' hkl)
  have hK0 : (0 : Int) ≤ (K : Int) := by omega
  have hK1 : (K : Int) < (l.length : Int) := by omega
  generalize l[K] = y at *
  have hR := Lib.hid hA
  clear hfi hA
  go_enter Try.func46, Try.ntmps46
  go_wp2_with fail
  refine (refHas10_any l _ _ hl hz _ hU).mono ?_
  rintro e w1 ⟨rfl, hb1⟩
  rw [HH.out]
  obtain ⟨b, o, cap', va, vk, hv, hb, c0, c1, c2, c3, c4, hat, hks⟩ := hUF.out _ (hU.kept hb1)
  cases hv
  obtain ⟨a1, cap1, rfl⟩ := hat.len
  obtain ⟨a2, cap2, rfl⟩ := hks.len
  go_wp2_with fail
  refine (refHas15_any x _ _ ⟨#[110, 111, 118, 97, 108, 105, 100, 97, 116, 101]⟩ (by omega) _ hat).mono ?_
  rintro e w2 ⟨rfl, hb2⟩
  rw [HA.out]
  have hb02 := bs hb1 hb2
  go_wp2_with fail
  refine (refFires24_any l _ _ hl hRP _ (hU.kept hb02)).mono ?_
  rintro e w3 ⟨rfl, hb3⟩
  rw [HF.out]
  have hb03 := bs hb02 hb3
  obtain ⟨b5, o5, cap5, va5, vk5, hv, hb5, g0, g1, g2, g3, g4, hat5, hks5⟩ := hUK.out _ (hU.kept hb03)
  cases hv
  obtain ⟨a3, cap3, rfl⟩ := hat5.len
  obtain ⟨a4, cap4, rfl⟩ := hks5.len
  go_wp2_with fail
  refine (refHas15_any y _ _ ⟨#[102, 111, 114, 109, 110, 111, 118, 97, 108, 105, 100, 97, 116, 101]⟩ (by omega) _ hat5).mono ?_
  rintro e w4 ⟨rfl, hb4⟩
  go_wp2_with fail
  go_ret
  exact ⟨ret_bool (by rw [hR.out, Option.not_isSome]), bs hb03 hb4⟩
end Go.Proofs.Ytenicjebccdekaa
