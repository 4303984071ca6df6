import Derived.RangeFuncBox
import Derived.RangeFuncLeaves
import Derived.Shelf.Abstract
import Derived.WalkKit
import Derived.OwnWalkIn
import Derived.TacticsInMore
import Derived.LoopNIn
import Derived.LoopIn
import Derived.Maps.AppendAt
import Derived.Test.YtafbghlldlconaaGreatPart6
/-
  A SELECT's OPTIONS, handed out one by one (a range over a function): option.options and its closure: the iterator's contract.
-/
namespace Go.Proofs.YtafbghlldlconaaGreat
set_option linter.unusedVariables false
set_option linter.unusedSimpArgs false
open Go.RowKit Go.Shelf PT

attribute [local go_sem] Oper.semAt_some
/-- whatever lay below n₂ lies as it lay, but for the block B (a variable of the loop's own) -/
structure KX (B n₂ : Nat) (w w' : World) : Prop where
  os : w'.os = w.os
  tape : w'.tape = w.tape
  output : w'.output = w.output
  size : w.heap.size ≤ w'.heap.size
  block : ∀ k, k < n₂ → k ≠ B → w'.heap[k]? = w.heap[k]?
theorem KX.trans {B n₂ : Nat} {a b c : World} (h : KX B n₂ a b) (k : KX B n₂ b c) : KX B n₂ a c :=
  ⟨k.os.trans h.os, k.tape.trans h.tape, k.output.trans h.output, Nat.le_trans h.size k.size, fun i hi hn => (k.block i hi hn).trans (h.block i hi hn)⟩
theorem KX.below {B n₂ m : Nat} {a b : World} (h : KX B n₂ a b) (h1 : m ≤ B) (h2 : m ≤ n₂) : Below m a b := ⟨h.os, h.tape, h.output, h.size, fun k hk => h.block k (by omega) (by omega)⟩
theorem KX.cell {B n₂ : Nat} {a b : World} (h : KX B n₂ a b) {p : Addr} (h1 : p.block < n₂) (h2 : p.block ≠ B) {u : Value} (hc : a.cell? p = some u) : b.cell? p = some u := by
  rw [← hc]
  simp only [World.cell?, h.block p.block h1 h2]
theorem grown_of_below {w w' : World} (h : Below w.heap.size w w') : w.grownBy w' none := ⟨h.os, h.tape, h.output, h.size, fun k hk _ => h.block k hk⟩
/-- what the iterator reads -/
structure IR (w0 : World) (n₂ B1 B2 : Nat) (v : Value) (sel : Int) (wr : World) : Prop where
  below : Below w0.heap.size w0 wr
  size : n₂ ≤ wr.heap.size
  c1 : wr.cell? ⟨B1, 0, none⟩ = some v
  c2 : wr.cell? ⟨B2, 0, none⟩ = some (.int .i64 sel)
theorem IR.grow {w0 : World} {n₂ B1 B2 : Nat} {v : Value} {sel : Int} {a b : World} (h : IR w0 n₂ B1 B2 v sel a) (hb : Below a.heap.size a b) (h1 : B1 < n₂) (h2 : B2 < n₂) : IR w0 n₂ B1 B2 v sel b :=
  ⟨h.below.trans (hb.mono h.below.size), Nat.le_trans h.size hb.size, (hb.cell (p := ⟨B1, 0, none⟩) (Nat.lt_of_lt_of_le h1 h.size)).trans h.c1, (hb.cell (p := ⟨B2, 0, none⟩) (Nat.lt_of_lt_of_le h2 h.size)).trans h.c2⟩
theorem IR.kx {w0 : World} {B n₂ B1 B2 : Nat} {v : Value} {sel : Int} {a b : World} (h : IR w0 n₂ B1 B2 v sel a) (hb : KX B n₂ a b) (hw : w0.heap.size ≤ B) (h1 : B < B1 ∧ B1 < n₂) (h2 : B < B2 ∧ B2 < n₂) : IR w0 n₂ B1 B2 v sel b :=
  ⟨h.below.trans (hb.below hw (by omega)), Nat.le_trans h.size hb.size, hb.cell (p := ⟨B1, 0, none⟩) h1.2 (by show B1 ≠ B; omega) h.c1, hb.cell (p := ⟨B2, 0, none⟩) h2.2 (by show B2 ≠ B; omega) h.c2⟩
/-- what has come when the child i stands at its place t -/
def outT (l : List Nd) (sel : Int) (i t : Nat) : List Int := ((ksOf l sel).take i).flatMap (fun k => (innF l k).filter (optP l)) ++ (match (ksOf l sel)[i]? with
  | some k => ((innF l k).take t).filter (optP l)
  | none => [])
theorem outT_start (l : List Nd) (sel : Int) (i : Nat) : outT l sel i 0 = ((ksOf l sel).take i).flatMap (fun k => (innF l k).filter (optP l)) := by
  unfold outT
  split <;> simp
theorem outT_next {l : List Nd} {sel : Int} {i : Nat} (hi : i < (ksOf l sel).length) {t : Nat} (ht : (innF l (ksOf l sel)[i]).length ≤ t) : outT l sel i t = outT l sel (i + 1) 0 := by
  rw [outT_start]
  unfold outT
  rw [List.getElem?_eq_getElem hi, List.take_succ_eq_append_getElem hi, List.flatMap_append, List.flatMap_cons, List.flatMap_nil, List.append_nil]
  dsimp only
  rw [List.take_of_length_le ht]
theorem outT_snoc {l : List Nd} {sel : Int} {i : Nat} (hi : i < (ksOf l sel).length) {t : Nat} (ht : t < (innF l (ksOf l sel)[i]).length) : outT l sel i (t + 1) = outT l sel i t ++ if optP l (innF l (ksOf l sel)[i])[t] = true then [(innF l (ksOf l sel)[i])[t]] else [] := by
  unfold outT
  rw [List.getElem?_eq_getElem hi]
  dsimp only
  rw [filter_snoc ht, List.append_assoc]
theorem outT_all (l : List Nd) (sel : Int) : outT l sel (ksOf l sel).length 0 = optsOf l sel := by
  rw [outT_start, List.take_length]; rfl
theorem outT_pre {l : List Nd} {sel : Int} {i : Nat} (hi : i < (ksOf l sel).length) (t : Nat) : outT l sel i t <+: optsOf l sel := by
  have h1 : outT l sel i t <+: outT l sel (i + 1) 0 := by
    rw [← outT_next hi (Nat.le_refl _)]
    unfold outT
    rw [List.getElem?_eq_getElem hi]
    dsimp only
    refine (List.prefix_append_right_inj _).2 ?_
    rw [List.take_length]
    exact (List.take_prefix t _).filter _
  refine h1.trans ?_
  rw [outT_start]
  unfold optsOf
  conv => rhs; rw [← List.take_append_drop (i + 1) (ksOf l sel), List.flatMap_append]
  exact List.prefix_append _ _
set_option maxHeartbeats 4000000 in
set_option maxRecDepth 100000 in
theorem optIter_in (l : List Nd) (hRP : RightP l) (v : Value) (K : Nat) (hkl : K < l.length) (n : Nat) (hn : 1 ≤ n) (B B1 B2 n₂ : Nat) (w0 : World) (hU : Nodes l v w0) (hw0 : w0.heap.size ≤ B) (h1 : B < B1 ∧ B1 < n₂) (h2 : B < B2 ∧ B2 < n₂)
    (lp : Nat) (J Jx : List Int → World → Prop) (W : World) (hJ : AbidesFrom W.heap.size J)
    (hY : ∀ pre x W1, J pre W1 → pre.length < (optsOf l K).length → YieldAt Fence.wide (n - 1) Tryz.prog lp #[.int .i64 x] W1 fun e W' =>
      (e = .returned (.bool true) ∧ J (pre ++ [x]) W' ∧ KX B n₂ W1 W') ∨ (e = .returned (.bool false) ∧ Jx (pre ++ [x]) W'))
    (hR : IR w0 n₂ B1 B2 v K W) (h0 : J [] W) :
    CallsIn Fence.wide n Tryz.prog 96 #[.func (.yield lp) #[] #[], .pointer (some ⟨B1, 0, none⟩), .pointer (some ⟨B2, 0, none⟩)] W fun e W' => (∃ v, e = .returned v) ∧
      ((∃ ys, ys = optsOf l K ∧ J ys W') ∨ (∃ pre, pre <+: optsOf l K ∧ Jx pre W')) := by
  have hstep : ∀ {s : List Int} {A C : World}, J s A → Below A.heap.size A C → J s C := fun hs hb => hJ _ _ _ none hs (grown_of_below hb) (fun r e => by cases e)
  have HS := Lib.hid (show ∀ (s : List Int) (A C : World), J s A → Below A.heap.size A C → J s C from fun s A C a b => hstep a b)
  have hvals := hRP.vals
  obtain ⟨b, o, cap, va, vk, rfl, hb, c0, c1, c2, c3, c4, hat, hks⟩ := hU.at hkl
  have hke := ksOf_at hkl
  obtain ⟨a', cap', rfl⟩ := hks.len
  have hkl2 : (ksOf l K).length ≤ 400 := Nat.le_trans (nodup_len (hRP.nodup (k := (K : Int)) (by omega) (by omega)) (fun c' hc' => ⟨(hRP.kid (by omega) (by omega) hc').1, (hRP.kid (by omega) (by omega) hc').2.1⟩)) hRP.max
  have hK0 : (0 : Int) ≤ (K : Int) := by omega
  have hK1 : (K : Int) < (l.length : Int) := by omega
  have hlen := hRP.max
  rw [← hke] at hks c4
  have HY := Lib.hid hY
  clear hY hstep hke
  have rc1 := hR.c1
  have rc2 := hR.c2
  have d4 := (hR.below.cell (p := ⟨b, o + K * 5 + 4, none⟩) hb).trans c4
  refine callsIn_of_wp Tryz.func96 rfl trivial ?_ rfl
  simp only [Tryz.ntmps96, List.size_toArray, List.length_cons, List.length_nil, Nat.reduceAdd, Nat.reduceSub, Array.replicate_succ, Array.replicate_zero, List.push_toArray, List.append_toArray, List.nil_append, List.cons_append]
  gi_wp2
  gi_loopw [15] (fun i wr => ∃ k : Nat, k ≤ (ksOf l K).length ∧ i = .int .i64 k ∧ IR w0 n₂ B1 B2 (.slice (some ⟨b, o, none⟩) l.length cap) K wr ∧ J (outT l K k 0) wr) (fun i _ => (ksOf l K).length - (intOf i).toNat)
  case atStart => exact ⟨0, Nat.zero_le _, rfl, hR, by rw [outT_start]; simpa using h0⟩
  case round =>
    obtain ⟨k, hk, rfl, hr, hj⟩ := hrel
    have rc1 := hr.c1
    have rc2 := hr.c2
    by_cases hlt : k < (ksOf l K).length
    · obtain ⟨b5, o5, cap5, hv5, hb5, cc5⟩ := (hks.kept hr.below).at hlt
      cases hv5
      obtain ⟨q0, q1, qp⟩ := hRP.kid (k := (K : Int)) (by omega) (by omega) (List.getElem_mem hlt)
      have hN := Lib.hid (fun t => outT_next (l := l) (sel := (K : Int)) hlt (t := t))
      have hS := Lib.hid (fun t => outT_snoc (l := l) (sel := (K : Int)) hlt (t := t))
      have hP := Lib.hid (fun t => outT_pre (l := l) (sel := (K : Int)) hlt t)
      generalize (ksOf l K)[k] = c at *
      obtain ⟨q, rfl⟩ := Int.eq_ofNat_of_zero_le q0
      have hq : q < l.length := by omega
      have hbA := (Below.refl wr.heap.size wr).alloc (Nat.le_refl _) (.cells #[.int .i64 (q : Nat)] 3)
      have hrA := hr.grow hbA h1.2 h2.2
      have hnA := Go.heap_alloc_new wr (.cells #[.int .i64 (q : Nat)] 3)
      have cA : (wr.alloc (.cells #[.int .i64 (q : Nat)] 3)).cell? ⟨wr.heap.size, 0, none⟩ = some (.int .i64 (q : Nat)) := by simp only [World.cell?, hnA]; rfl
      have hsA : (wr.alloc (.cells #[.int .i64 (q : Nat)] 3)).heap.size = wr.heap.size + 1 := by simp
      have hjA := HS.out _ _ _ hj hbA
      clear hnA
      have rA1 := hrA.c1
      have rA2 := hrA.c2
      obtain ⟨b6, o6, cap6, wa, wk, hv6, hb6, e0', e1', e2', e3', e4', hat6, hks6⟩ := hU.at hq
      cases hv6
      obtain ⟨z1, z2⟩ := hvals _ (List.getElem_mem hq)
      have hko := kOf_at hq
      have hke := ksOf_at hq
      generalize l[q] = x at *
      have e0 := cellK hrA.below hb6 e0'
      have e1 := cellK hrA.below hb6 e1'
      have e2 := cellK hrA.below hb6 e2'
      have e3 := cellK hrA.below hb6 e3'
      have e4 := cellK hrA.below hb6 e4'
      have hq0 : (0 : Int) ≤ (q : Int) := by omega
      have hq1 : (q : Int) < (l.length : Int) := by omega
      gi_wp2_with fail
      generalize World.alloc _ _ = wA at hbA hrA cA hsA hjA rA1 rA2 e0 e1 e2 e3 e4 ⊢
      refine ⟨trivial, (callsIn_wide.2 (kindsOf_any x wa wk z1 z2 _ (hat6.kept hrA.below))).mono ?_⟩
      rintro e w2 ⟨rfl, hb2⟩
      have hr2 := hrA.grow hb2 h1.2 h2.2
      have hj2 := HS.out _ _ _ hjA hb2
      have r21 := hr2.c1
      have m4 := cellK hr2.below hb6 e4'
      have cA2 := (hb2.cell (p := ⟨wr.heap.size, 0, none⟩) (by show wr.heap.size < wA.heap.size; omega)).trans cA
      obtain ⟨a6, c6, rfl⟩ := hks6.len
      have hxl : x.ks.length ≤ 400 := by
        rw [← hke]
        exact Nat.le_trans (nodup_len (hRP.nodup (k := (q : Int)) (by omega) (by omega)) (fun c' hc' => ⟨(hRP.kid (by omega) (by omega) hc').1, (hRP.kid (by omega) (by omega) hc').2.1⟩)) hRP.max
      by_cases h33 : kindOf x = 33
      · have H33 := Lib.hid h33
        have hin := Lib.hid (show innF l (q : Nat) = x.ks by rw [← hke]; exact if_pos (hko.trans h33))
        clear h33
        rw [H33.out]
        gi_wp2_with fail
        gi_loopw [34] (fun i wi => ∃ t : Nat, t ≤ x.ks.length ∧ i = .int .i64 t ∧ IR w0 n₂ B1 B2 (.slice (some ⟨b, o, none⟩) l.length cap) K wi ∧ J (outT l K k t) wi) (fun i _ => x.ks.length - (intOf i).toNat)
        case atStart => exact ⟨0, Nat.zero_le _, rfl, hr2, hj2⟩
        case round =>
          obtain ⟨t, ht, rfl, hri, hji⟩ := hrel
          by_cases hlt2 : t < x.ks.length
          · obtain ⟨p0, p1, pp⟩ := hRP.kid (k := (q : Int)) (by omega) (by omega) (by rw [hke]; exact List.getElem_mem hlt2)
            have hsn := Lib.hid (show outT l K k (t + 1) = outT l K k t ++ if optP l x.ks[t] = true then [x.ks[t]] else [] by rw [hS.out t (by rw [hin.out]; exact hlt2)]; simp only [hin.out])
            obtain ⟨b7, o7, cap7, hv7, hb7, cc7⟩ := (hks6.kept hri.below).at hlt2
            cases hv7
            generalize x.ks[t] = z at *
            obtain ⟨p, rfl⟩ := Int.eq_ofNat_of_zero_le p0
            have hp : p < l.length := by omega
            obtain ⟨b8, o8, cap8, ya, yk, hv8, hb8, g0, g1, g2, g3, g4, hat8, hks8⟩ := hU.at hp
            cases hv8
            obtain ⟨y1, y2⟩ := hvals _ (List.getElem_mem hp)
            have hko8 := kOf_at hp
            generalize l[p] = y at *
            have hp0 : (0 : Int) ≤ (p : Int) := by omega
            have hp1 : (p : Int) < (l.length : Int) := by omega
            have i1 := hri.c1
            have f0 := cellK hri.below hb8 g0
            have f1 := cellK hri.below hb8 g1
            have f2 := cellK hri.below hb8 g2
            have f3 := cellK hri.below hb8 g3
            have f4 := cellK hri.below hb8 g4
            gi_wp2_with fail
            refine ⟨trivial, (callsIn_wide.2 (kindsOf_any y ya yk y1 y2 _ (hat8.kept hri.below))).mono ?_⟩
            rintro e w3 ⟨rfl, hb3⟩
            have hri3 := hri.grow hb3 h1.2 h2.2
            have hji3 := HS.out _ _ _ hji hb3
            by_cases h32 : kindOf y = 32
            · have H32 := Lib.hid h32
              have hO : optP l (p : Nat) = true := decide_eq_true (hko8.trans h32)
              have hsn2 := Lib.hid (show outT l K k (t + 1) = outT l K k t ++ [((p : Nat) : Int)] from hsn.out.trans (by rw [hO, if_pos rfl]))
              have hlen3 : (outT l K k t).length < (optsOf l K).length := by
                have e1 := hsn2.out
                have e2 := (hP.out (t + 1)).length_le
                have e3 := congrArg List.length e1
                rw [List.length_append, List.length_cons, List.length_nil] at e3
                omega
              obtain ⟨fn, tmps, assign, body, hy, hRy⟩ := HY.out _ (p : Int) w3 hji3 hlen3
              clear h32 hO hlen3
              rw [H32.out]
              gi_wp2_with fail
              refine hRy.mono ?_
              rintro e w4 (⟨rfl, hJ4, hk4⟩ | ⟨rfl, hJx4⟩)
              · gi_wp2_with fail
                go_roundw
                case rel => exact ⟨t + 1, by omega, by go_num, hri3.kx hk4 hw0 h1 h2, by rw [hsn2.out]; exact hJ4⟩
                case measure => simp [intOf]; omega
              · gi_wp2_with fail
                refine bodyPost_ret (results_none rfl _ _ _) rfl ?_
                exact ⟨⟨_, rfl⟩, .inr ⟨_, hP.out (t + 1), by rw [hsn2.out]; exact hJx4⟩⟩
            · have hO : optP l (p : Nat) = false := decide_eq_false (fun e => h32 (hko8.symm.trans e))
              have hsn2 := Lib.hid (show outT l K k (t + 1) = outT l K k t from hsn.out.trans (by rw [hO, if_neg Bool.false_ne_true, List.append_nil]))
              have q32 := intNe h32
              clear h32 hO
              gi_wp2_with fail
              refine ⟨fun _ h => (by cases h), ?_⟩
              gi_wp2_with fail
              go_roundw
              case rel => exact ⟨t + 1, by omega, by go_num, hri3, by rw [hsn2.out]; exact hji3⟩
              case measure => simp [intOf]; omega
          · obtain rfl : t = x.ks.length := by omega
            gi_wp2_with fail
            go_roundw
            case rel => exact ⟨k + 1, by omega, by go_num, hri, by rw [← hN.out _ (by rw [hin.out]; exact Nat.le_refl _)]; exact hji⟩
            case measure => simp [intOf]; omega
      · have hin := Lib.hid (show innF l (q : Nat) = [((q : Nat) : Int)] from if_neg (fun e => h33 (hko.symm.trans e)))
        have q33 := intNe h33
        clear h33
        gi_wp2_with fail
        gi_loopw [34] (fun i wi => ∃ t : Nat, t ≤ 1 ∧ i = .int .i64 t ∧ IR w0 n₂ B1 B2 (.slice (some ⟨b, o, none⟩) l.length cap) K wi ∧ (t = 0 → wi.cell? ⟨wr.heap.size, 0, none⟩ = some (.int .i64 (q : Nat))) ∧ J (outT l K k t) wi) (fun i _ => 1 - (intOf i).toNat)
        case atStart => exact ⟨0, Nat.zero_le _, rfl, hr2, fun _ => cA2, hj2⟩
        case round =>
          obtain ⟨t, ht, rfl, hri, hci, hji⟩ := hrel
          by_cases hlt2 : t < 1
          · obtain rfl : t = 0 := by omega
            have hsn := Lib.hid (show outT l K k (0 + 1) = outT l K k 0 ++ if optP l (q : Nat) = true then [((q : Nat) : Int)] else [] by rw [hS.out 0 (by rw [hin.out]; exact Nat.one_pos)]; simp only [hin.out]; rfl)
            have cc7 := hci rfl
            have p0 := q0
            have p1 := q1
            generalize ((q : Nat) : Int) = z at *
            obtain ⟨p, rfl⟩ := Int.eq_ofNat_of_zero_le p0
            have hp : p < l.length := by omega
            obtain ⟨b8, o8, cap8, ya, yk, hv8, hb8, g0, g1, g2, g3, g4, hat8, hks8⟩ := hU.at hp
            cases hv8
            obtain ⟨y1, y2⟩ := hvals _ (List.getElem_mem hp)
            have hko8 := kOf_at hp
            generalize l[p] = y at *
            have hp0 : (0 : Int) ≤ (p : Int) := by omega
            have hp1 : (p : Int) < (l.length : Int) := by omega
            have i1 := hri.c1
            have f0 := cellK hri.below hb8 g0
            have f1 := cellK hri.below hb8 g1
            have f2 := cellK hri.below hb8 g2
            have f3 := cellK hri.below hb8 g3
            have f4 := cellK hri.below hb8 g4
            gi_wp2_with fail
            refine ⟨trivial, (callsIn_wide.2 (kindsOf_any y ya yk y1 y2 _ (hat8.kept hri.below))).mono ?_⟩
            rintro e w3 ⟨rfl, hb3⟩
            have hri3 := hri.grow hb3 h1.2 h2.2
            have hji3 := HS.out _ _ _ hji hb3
            by_cases h32 : kindOf y = 32
            · have H32 := Lib.hid h32
              have hO : optP l (p : Nat) = true := decide_eq_true (hko8.trans h32)
              have hsn2 := Lib.hid (show outT l K k (0 + 1) = outT l K k 0 ++ [((p : Nat) : Int)] from hsn.out.trans (by rw [hO, if_pos rfl]))
              have hlen3 : (outT l K k 0).length < (optsOf l K).length := by
                have e1 := hsn2.out
                have e2 := (hP.out (0 + 1)).length_le
                have e3 := congrArg List.length e1
                rw [List.length_append, List.length_cons, List.length_nil] at e3
                omega
              obtain ⟨fn, tmps, assign, body, hy, hRy⟩ := HY.out _ (p : Int) w3 hji3 hlen3
              clear h32 hO hlen3
              rw [H32.out]
              gi_wp2_with fail
              refine hRy.mono ?_
              rintro e w4 (⟨rfl, hJ4, hk4⟩ | ⟨rfl, hJx4⟩)
              · gi_wp2_with fail
                go_roundw
                case rel => exact ⟨0 + 1, by omega, by go_num, hri3.kx hk4 hw0 h1 h2, fun e => absurd e (Nat.succ_ne_zero _), by rw [hsn2.out]; exact hJ4⟩
                case measure => simp [intOf]
              · gi_wp2_with fail
                refine bodyPost_ret (results_none rfl _ _ _) rfl ?_
                exact ⟨⟨_, rfl⟩, .inr ⟨_, hP.out (0 + 1), by rw [hsn2.out]; exact hJx4⟩⟩
            · have hO : optP l (p : Nat) = false := decide_eq_false (fun e => h32 (hko8.symm.trans e))
              have hsn2 := Lib.hid (show outT l K k (0 + 1) = outT l K k 0 from hsn.out.trans (by rw [hO, if_neg Bool.false_ne_true, List.append_nil]))
              have q32 := intNe h32
              clear h32 hO
              gi_wp2_with fail
              refine ⟨fun _ h => (by cases h), ?_⟩
              gi_wp2_with fail
              go_roundw
              case rel => exact ⟨0 + 1, by omega, by go_num, hri3, fun e => absurd e (Nat.succ_ne_zero _), by rw [hsn2.out]; exact hji3⟩
              case measure => simp [intOf]
          · obtain rfl : t = 1 := by omega
            gi_wp2_with fail
            go_roundw
            case rel => exact ⟨k + 1, by omega, by go_num, hri, by rw [← hN.out _ (by rw [hin.out]; exact Nat.le_refl _)]; exact hji⟩
            case measure => simp [intOf]; omega
    · obtain rfl : k = (ksOf l K).length := by omega
      gi_wp2_with fail
      go_end0
      exact ⟨⟨_, rfl⟩, .inl ⟨_, rfl, by rw [← outT_all]; exact hj⟩⟩
set_option maxHeartbeats 1000000 in
theorem optMake_in (a : Option Addr) (m cap : Nat) (sel : Int) (n : Nat) (w : World) :
    CallsIn Fence.wide n Tryz.prog 91 #[.slice a m cap, .int .i64 sel] w fun e w' => e = .returned (.func (.func 96) #[] #[.pointer (some ⟨w.heap.size, 0, none⟩), .pointer (some ⟨w.heap.size + 1, 0, none⟩)]) ∧ w' = (w.alloc (.cells #[.slice a m cap] 22)).alloc (.cells #[.int .i64 sel] 3) := by
  refine callsIn_of_wp Tryz.func91 rfl trivial ?_ rfl
  simp only [Tryz.ntmps91, List.size_toArray, List.length_cons, List.length_nil, Nat.reduceAdd, Nat.reduceSub, Array.replicate_succ, Array.replicate_zero, List.push_toArray, List.append_toArray, List.nil_append, List.cons_append]
  gi_wp2
  go_ret
  exact ⟨by simp, rfl⟩
/-- THE ITERATOR's CONTRACT -/
theorem opt_stops (l : List Nd) (hRP : RightP l) (v : Value) (K : Nat) (hkl : K < l.length) (n : Nat) (hn : 1 ≤ n) (B B1 B2 : Nat) (w0 : World) (hU : Nodes l v w0) (hw0 : w0.heap.size ≤ B) (w : World) (h1 : B < B1 ∧ B1 < w.heap.size) (h2 : B < B2 ∧ B2 < w.heap.size)
    (hR : IR w0 w.heap.size B1 B2 v K w) :
    SeqStopsK Fence.wide n Tryz.prog 96 #[.pointer (some ⟨B1, 0, none⟩), .pointer (some ⟨B2, 0, none⟩)] (fun x : Int => #[Value.int .i64 x]) (KX B w.heap.size) (fun ys => ys = optsOf l K) (fun pre => pre <+: optsOf l K) (optsOf l K).length w := fun lp J Jx W hW hJ _ hY h0 =>
  optIter_in l hRP v K hkl n hn B B1 B2 w.heap.size w0 hU hw0 h1 h2 lp J Jx W hJ hY (hR.grow hW h1.2 h2.2) h0
end Go.Proofs.YtafbghlldlconaaGreat
