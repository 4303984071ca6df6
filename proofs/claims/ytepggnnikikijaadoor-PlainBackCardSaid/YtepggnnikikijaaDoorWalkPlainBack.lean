/-
  The law PlainBack: the walk.
-/
import Derived.Test.YtepggnnikikijaaDoorWalkPlainEncodes
namespace Go.Proofs.YtepggnnikikijaaDoor
open Go.RowKit PT

theorem lines21_flat (es : List Ent) : lines21 es = (es.map line).flatMap fun x => x ++ [13, 10] := by
  unfold lines21
  rw [List.flatMap_map]
theorem line_cat2 (a b : List UInt8) : ByteArray.mk a.toArray ++ ByteArray.mk #[61] ++ ByteArray.mk b.toArray = ByteArray.mk (a ++ 61 :: b).toArray := by
  rw [show ByteArray.mk #[61] = ByteArray.mk [61].toArray from rfl, mk_append, mk_append]
  simp
set_option maxHeartbeats 2000000 in
set_option maxRecDepth 100000 in
theorem plainBack_walk (es : List Ent) (v : Value) (w : World) (hE : Ents es v w) (hT : Tables w) :
    Calls Tryd.prog 5 #[v] w fun e w' => e = .returned (.bool true) ∧ Below w.heap.size w w' := by
  go_enter Tryd.func5, Tryd.ntmps5
  go_wp2_with fail
  refine (wakes21_any _ hT).mono ?_
  rintro e w1 ⟨rfl, hb1⟩
  have hE1 := hE.kept hb1
  have hT1 := hT.kept hb1
  go_wp2_with fail
  refine (long19_any es v _ hE1).mono ?_
  rintro e w' ⟨rfl, rfl⟩
  cases hl : longB es
  · obtain ⟨h60, hS⟩ := long21_no hl
    clear hl
    go_wp2_with fail
    refine (refPlain19_any es v _ hE1 (by omega) hS).mono ?_
    rintro e w2 ⟨⟨v2, rfl, hP⟩, hb2⟩
    have hP2 := hP.ents
    have hml : (es.map tel).length = es.length := List.length_map _
    obtain ⟨a, cap, hv2⟩ := hP2.len
    rw [hml] at hv2
    subst hv2
    have hT2 := hT1.kept hb2
    have hE2 := hE1.kept hb2
    have hb12 := bs hb1 hb2
    clear hP
    go_wp2_with fail
    go_loopw [15, 3] (fun i v wr => ∃ k : Nat, k ≤ es.length ∧ i = .int .i64 k ∧ OT w2.heap.size ((es.take k).map line) v wr ∧ Below w2.heap.size w2 wr ∧ Hid (∀ x ∈ (es.take k).map line, ∀ c ∈ x, brk c = false)) (fun i _ _ => es.length - (intOf i).toNat)
    case atStart => exact ⟨0, Nat.zero_le _, rfl, OT.nil _ _, Below.refl _ _, Lib.hid (by simp)⟩
    case round =>
      obtain ⟨k, hk, rfl, hown, hbel, hNB⟩ := hrel
      have hsz := hbel.size
      by_cases hlt : k < es.length
      · obtain ⟨b, o, cap', hv, hb, hc0, hc1, hc2, hc3, hc4⟩ := (hP2.kept hbel).five (k := k) (by omega)
        rw [hml] at hv
        cases hv
        have hSk := hS es[k] (List.getElem_mem hlt)
        have hTk := Lib.hid (List.take_succ_eq_append_getElem hlt)
        rw [List.getElem_map] at hc0 hc1 hc2 hc3 hc4
        generalize es[k] = x at *
        have hn1 := telN_len x hSk
        have hn2 := telV_len x hSk
        have hc0' : wr.cell? ⟨b, o + k * 5, none⟩ = some (.string ⟨(telN x).toArray⟩) := hc0
        have hc1' : wr.cell? ⟨b, o + k * 5 + 1, none⟩ = some (.string ⟨(telV x).toArray⟩) := hc1
        have hc2' : wr.cell? ⟨b, o + k * 5 + 2, none⟩ = some (.bool false) := hc2
        have hc3' : wr.cell? ⟨b, o + k * 5 + 3, none⟩ = some (.string ⟨#[]⟩) := hc3
        have hc4' : wr.cell? ⟨b, o + k * 5 + 4, none⟩ = some (.string ⟨#[]⟩) := hc4
        clear hc0 hc1 hc2 hc3 hc4
        have hS0 : ∃ S : ByteArray, ByteArray.mk (telN x).toArray ++ ByteArray.mk #[61] ++ ByteArray.mk (telV x).toArray = S ∧ S.size = (telN x).length + (telV x).length + 1 ∧ S.data.toList = line x := by
          refine ⟨_, line_cat2 _ _, ?_, rfl⟩
          rw [size_mk, List.length_append, List.length_cons]; omega
        obtain ⟨S, hX, hSz, hSl⟩ := hS0
        have HX := Lib.hid hX
        have HSl := Lib.hid hSl
        have hSz2 : S.size ≤ 12001 := by omega
        have HSz := Lib.hid hSz
        have hb3 := hbel.alloc hsz (.cells #[.string ⟨(telN x).toArray⟩, .string ⟨(telV x).toArray⟩, .bool false, .string ⟨#[]⟩, .string ⟨#[]⟩] 32)
        have hown3 := hown.alloc (.cells #[.string ⟨(telN x).toArray⟩, .string ⟨(telV x).toArray⟩, .bool false, .string ⟨#[]⟩, .string ⟨#[]⟩] 32)
        clear hX hSz hSl
        go_wp2_with fail
        rw [HX.out]
        generalize wr.alloc (.cells #[.string ⟨(telN x).toArray⟩, .string ⟨(telV x).toArray⟩, .bool false, .string ⟨#[]⟩, .string ⟨#[]⟩] 32) = W0 at *
        go_loop [27] (fun i => ∃ j : Nat, j ≤ S.size ∧ i = .int .i64 j ∧ Hid (∀ c ∈ S.data.toList.take j, brk c = false)) (fun i => S.size - (intOf i).toNat)
        case atStart => exact ⟨0, Nat.zero_le _, rfl, Lib.hid (by simp)⟩
        case round =>
          obtain ⟨j, hj, rfl, hNo⟩ := hrel
          by_cases hjl : j < S.size
          · have hjI : (j : Int) < ((telN x).length : Int) + 1 + ((telV x).length : Int) := by have := HSz.out; omega
            by_cases h10 : S[j] = 10
            · have h10' : ((S[j].toNat : Int) == 10) = true := by rw [h10]; rfl
              clear h10
              go_wp2_with fail
              go_ret
              exact ⟨rfl, bs hb12 hb3⟩
            · have h10' : ((S[j].toNat : Int) == 10) = false := by
                rw [beq_eq_false_iff_ne]
                intro e
                exact h10 (UInt8.toNat_inj.1 (by have : (10 : UInt8).toNat = 10 := rfl; omega))
              by_cases h13 : S[j] = 13
              · have h13' : ((S[j].toNat : Int) == 13) = true := by rw [h13]; rfl
                clear h10 h13
                go_wp2_with fail
                go_ret
                exact ⟨rfl, bs hb12 hb3⟩
              · have h13' : ((S[j].toNat : Int) == 13) = false := by
                  rw [beq_eq_false_iff_ne]
                  intro e
                  exact h13 (UInt8.toNat_inj.1 (by have : (13 : UInt8).toNat = 13 := rfl; omega))
                have hN := Lib.hid (show ∀ c ∈ S.data.toList.take (j + 1), brk c = false by
                  intro c hc
                  rw [take_snoc S j hjl, List.mem_append, List.mem_singleton] at hc
                  rcases hc with hc | hc
                  · exact hNo.out c hc
                  · rw [hc]; unfold brk; simp [h10, h13])
                clear h10 h13
                go_wp2_with fail
                go_round
                case rel => exact ⟨j + 1, by omega, by go_num, hN⟩
                case measure => simp [intOf]; omega
          · obtain rfl : j = S.size := by omega
            have hjI : decide ((S.size : Int) < ((telN x).length : Int) + 1 + ((telV x).length : Int)) = false := by have := HSz.out; simp; omega
            have hNS : ∀ c ∈ S.data.toList, brk c = false := by have := hNo.out; rwa [List.take_of_length_le (by rw [size_list]; exact Nat.le_refl _)] at this
            have hov := hown3.ov
            have hsz3 := hb3.size
            have hxl' : (((es.take k).map line).map txt).length < 17179869184 := by rw [List.length_map, List.length_map, List.length_take]; omega
            have hNB2 := Lib.hid (show ∀ y ∈ (es.take (k + 1)).map line, ∀ c ∈ y, brk c = false by
              rw [hTk.out, List.map_append]
              intro y hy c hc
              rcases List.mem_append.1 hy with hy | hy
              · exact hNB.out y hy c hc
              · rw [List.map_cons, List.map_nil, List.mem_singleton] at hy
                rw [hy, ← HSl.out] at hc
                exact hNS c hc)
            clear hNS
            go_wp2_with (at_builtin; refine wpList_append_cell rfl _ _ 27 9 rfl Tryd.underlying27 info_str rfl (by decide) rfl rfl (.string S) rfl hov hxl' hsz3 ?_; intro v' w4 hown' hb')
            have hT4 : OT w2.heap.size ((es.take (k + 1)).map line) v' w4 := by
              rw [hTk.out]
              unfold OT
              rw [List.map_append, List.map_append, List.map_cons, List.map_nil, List.map_cons, List.map_nil, ← HSl.out]
              exact hown'
            go_roundw
            case rel => exact ⟨k + 1, by omega, by go_num, hT4, hb3.trans hb', hNB2⟩
            case measure => simp [intOf]; omega
      · obtain rfl : k = es.length := by omega
        rw [List.take_of_length_le (Nat.le_refl _)] at hown
        have hNB' : ∀ x ∈ es.map line, ∀ c ∈ x, brk c = false := by have := hNB.out; rwa [List.take_of_length_le (Nat.le_refl _)] at this
        have hR := Lib.hid (show rl [] (lines21 es) = es.map line by rw [lines21_flat]; exact rl_all _ hNB')
        have hLl := lines21_len es hS
        have hL2 : es.length * 12003 ≤ 60 * 12003 := Nat.mul_le_mul_right _ h60
        clear hNB' hNB
        go_wp2_with fail
        refine (plainEncode_any es v _ (hE2.kept hbel) (hT2.kept hbel) (by omega) hS).mono ?_
        rintro e w3 ⟨rfl, hb3⟩
        have hT3 := (hT2.kept hbel).kept hb3
        have hown3 := hown.kept hb3
        go_wp2_with fail
        refine (plainSplit_any ⟨(lines21 es).toArray⟩ (by rw [size_mk]; omega) _ hT3).mono ?_
        rintro e w4 ⟨⟨v4, rfl, hX4⟩, hb4⟩
        have hX4' : Txts (es.map line) v4 w4 := by
          have := hX4
          rw [show rl [] (ByteArray.mk (lines21 es).toArray).data.toList = es.map line from hR.out] at this
          exact this
        clear hX4
        go_wp2_with fail
        refine (same21_yes _ v4 _ _ hX4' (hown3.kept hb4).txts (by rw [List.length_map]; omega)).mono ?_
        rintro e w5 ⟨rfl, hb5⟩
        go_wp2_with fail
        go_ret
        exact ⟨rfl, bs (bs (bs (bs hb12 hbel) hb3) hb4) hb5⟩
  · go_wp2_with fail
    go_ret
    exact ⟨rfl, hb1⟩
end Go.Proofs.YtepggnnikikijaaDoor
