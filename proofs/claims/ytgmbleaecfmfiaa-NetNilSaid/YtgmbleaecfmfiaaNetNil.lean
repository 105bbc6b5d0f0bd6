/- THE CONTRACTS OF net.Net's METHODS OF nil, AND OF Count AND Copy. No condition beyond what each says. -/
import Derived.Test.YtgmbleaecfmfiaaNetMeth3
namespace Go.Proofs.Ytgmbleaecfmfiaa.Given
open Go.RowKit Go.Shelf Go.Proofs.YtgmbleaecfmfiaaW.PrintWords Go.Proofs.YtgmbleaecfmfiaaW.PrintLast Go.Proofs.YtgmbleaecfmfiaaW.PrintMore Go.Proofs.Ytgmbleaecfmfiaa.PS
set_option linter.unusedVariables false
set_option maxRecDepth 100000 in
theorem sendNil_h (w : World) (who : Nat) (v : Value) : Calls Try.prog 10 #[.pointer none, .int .u64 (who : Int), v] w fun e w' => e = .returned (.int .i64 1) ∧ w' = w := by
  go_enter Try.func10, Try.ntmps10
  go_wp2
  go_ret
  exact ⟨rfl, rfl⟩
set_option maxRecDepth 100000 in
theorem doubleNil_h (w : World) (i : Int) : Calls Try.prog 14 #[.pointer none, .int .i64 i] w fun e w' => e = .returned (.int .i64 1) ∧ Below w.heap.size w w' := by
  go_enter Try.func14, Try.ntmps14
  go_wp2_with fail
  refine (ask_nil _ i _).mono ?_
  rintro e w1 ⟨rfl, rfl⟩
  go_wp2
  go_ret
  exact ⟨rfl, (Below.refl _ _).alloc (Nat.le_refl _) _⟩
set_option maxRecDepth 100000 in
theorem spoilNil_h (w : World) (i j : Int) (m : UInt8) : Calls Try.prog 16 #[.pointer none, .int .i64 i, .int .i64 j, .int .u8 (m.toNat : Int)] w fun e w' => e = .returned (.int .i64 1) ∧ Below w.heap.size w w' := by
  go_enter Try.func16, Try.ntmps16
  go_wp2_with fail
  refine (ask_nil _ i _).mono ?_
  rintro e w1 ⟨rfl, rfl⟩
  go_wp2
  go_ret
  exact ⟨rfl, ((Below.refl _ _).alloc (Nat.le_refl _) _).alloc (by simp) _⟩
set_option maxRecDepth 100000 in
set_option maxHeartbeats 1000000 in
theorem atNil_h (w : World) (i : Int) : Calls Try.prog 15 #[.pointer none, .int .i64 i] w fun e w' => e = .returned (.tuple #[.agg #[.int .u64 0, .slice none 0 0, .bool false], .int .i64 1]) ∧ Below w.heap.size w w' := by
  go_enter Try.func15, Try.ntmps15
  go_wp2_with fail
  generalize hW : World.alloc _ _ = W
  obtain ⟨hb, hB, hs⟩ := box1 hW
  clear hW
  refine (ask_nil _ i _).mono ?_
  rintro e w1 ⟨rfl, rfl⟩
  have q0 := hb.cell 0
  have q1 := hb.cell 1
  have q2 := hb.cell 2
  have f0 := hb.fz 0
  have f1 := hb.fz 1
  have f2 := hb.fz 2
  have HXB := Aside0.mk hb
  have HB := Aside0.mk hB
  clear hb hB hs
  go_wp2
  generalize hW2 : World.setCell _ _ _ = W2
  have hx2 : Bx W2 w.heap.size 36 #[.int .u64 0, .slice none 0 0, .bool false] := by
    rw [← hW2]
    exact ((HXB.out.set 0 _).set 1 _).set 2 _
  have hb2 : Below w.heap.size w W2 := by
    rw [← hW2]
    exact ((HB.out.setCell (p := ⟨w.heap.size, 0, none⟩) (Nat.le_refl _) _).setCell (p := ⟨w.heap.size, 1, none⟩) (Nat.le_refl _) _).setCell (p := ⟨w.heap.size, 2, none⟩) (Nat.le_refl _) _
  have q0 := hx2.cell 0
  have q1 := hx2.cell 1
  have q2 := hx2.cell 2
  exact bodyPost_ret (v := .tuple #[.agg #[.int .u64 0, .slice none 0 0, .bool false], .int .i64 1]) (by simp [results, Try.results15, go_sem, q0, q1, q2]) rfl ⟨rfl, hb2⟩
set_option maxRecDepth 100000 in
set_option maxHeartbeats 1000000 in
theorem takeNil_h (w : World) (i : Int) : Calls Try.prog 23 #[.pointer none, .int .i64 i] w fun e w' => e = .returned (.tuple #[.agg #[.int .u64 0, .slice none 0 0, .bool false], .int .i64 1]) ∧ Below w.heap.size w w' := by
  go_enter Try.func23, Try.ntmps23
  go_wp2_with fail
  generalize hW : World.alloc _ _ = W
  obtain ⟨hb1, hb2, hb0, hB, hs⟩ := box3 hW
  clear hW
  refine (ask_nil _ i _).mono ?_
  rintro e w1 ⟨rfl, rfl⟩
  have q0 := hb0.cell 0
  have q1 := hb0.cell 1
  have q2 := hb0.cell 2
  have f0 := hb0.fz 0
  have f1 := hb0.fz 1
  have f2 := hb0.fz 2
  have HX0 := Aside0.mk hb0
  have HB := Aside0.mk hB
  have HS := Aside0.mk hs
  clear hb0 hb1 hb2 hB hs
  go_wp2
  generalize hW2 : World.setCell _ _ _ = W2
  have hx2 : Bx W2 (w.heap.size + 2) 36 #[.int .u64 0, .slice none 0 0, .bool false] := by
    rw [← hW2]
    exact ((HX0.out.set 0 _).set 1 _).set 2 _
  have hb2 : Below w.heap.size w W2 := by
    rw [← hW2]
    exact ((HB.out.setCell (p := ⟨w.heap.size + 2, 0, none⟩) (by simp) _).setCell (p := ⟨w.heap.size + 2, 1, none⟩) (by simp) _).setCell (p := ⟨w.heap.size + 2, 2, none⟩) (by simp) _
  have q0 := hx2.cell 0
  have q1 := hx2.cell 1
  have q2 := hx2.cell 2
  exact bodyPost_ret (v := .tuple #[.agg #[.int .u64 0, .slice none 0 0, .bool false], .int .i64 1]) (by simp [results, Try.results23, go_sem, q0, q1, q2]) rfl ⟨rfl, hb2⟩
set_option maxRecDepth 100000 in
theorem dropNil_h (w : World) (i : Int) : Calls Try.prog 11 #[.pointer none, .int .i64 i] w fun e w' => e = .returned (.int .i64 1) ∧ Below w.heap.size w w' := by
  go_enter Try.func11, Try.ntmps11
  go_wp2_with fail
  refine (takeNil_h w i).mono ?_
  rintro e w1 ⟨rfl, hb⟩
  have HB := Aside0.mk hb
  clear hb
  go_wp2
  go_ret
  exact ⟨rfl, chain HB.out ((Below.refl _ _).alloc (Nat.le_refl _) _)⟩
set_option maxRecDepth 100000 in
theorem allNil_h (w : World) : Calls Try.prog 12 #[.pointer none] w fun e w' => e = .returned (.slice none 0 0) ∧ w' = w := by
  go_enter Try.func12, Try.ntmps12
  go_wp2_with fail
  refine (len_nil w).mono ?_
  rintro e w1 ⟨rfl, rfl⟩
  go_wp2_with fail
  refine wp_loop_rounds 1 ?_
  rw [rounds_succ]
  go_wp2
  go_ret
  exact ⟨rfl, rfl⟩
set_option maxRecDepth 100000 in
theorem countNil_h (w : World) (who : Nat) : Calls Try.prog 25 #[.pointer none, .int .u64 (who : Int)] w fun e w' => e = .returned (.int .i64 0) ∧ w' = w := by
  go_enter Try.func25, Try.ntmps25
  go_wp2_with fail
  refine (len_nil w).mono ?_
  rintro e w1 ⟨rfl, rfl⟩
  go_wp2_with fail
  refine wp_loop_rounds 1 ?_
  rw [rounds_succ]
  go_wp2
  go_ret
  exact ⟨rfl, rfl⟩
set_option maxRecDepth 100000 in
theorem copyNil_h (w : World) : Calls Try.prog 26 #[.pointer none] w fun e w' => e = .returned (.pointer none) ∧ w' = w := by
  go_enter Try.func26, Try.ntmps26
  go_wp2
  go_ret
  exact ⟨rfl, rfl⟩
/-- how many go to one -/
def countL (L : List Lt) (who : Nat) : Nat := (L.filter fun l => l.who == who).length
theorem countL_snoc (L : List Lt) (l : Lt) (who : Nat) : countL (L ++ [l]) who = countL L who + if l.who = who then 1 else 0 := by
  unfold countL
  rw [List.filter_append, List.length_append]
  by_cases h : l.who = who <;> simp [h]
theorem countL_le (L : List Lt) (who : Nat) : countL L who ≤ L.length := List.length_filter_le _ _
set_option maxRecDepth 100000 in
set_option maxHeartbeats 1000000 in
theorem count_h {w : World} {base g : Nat} {v : Value} {L : List Lt} (hn : NetAt 28 w base g v L) (who : Nat) (hL : L.length ≤ 140737488355328) :
    Calls Try.prog 25 #[.pointer (some ⟨g, 0, none⟩), .int .u64 (who : Int)] w fun e w' => e = .returned (.int .i64 (countL L who : Nat)) ∧ w' = w := by
  have HN := Aside0.mk hn
  obtain ⟨A, c, rfl⟩ := hn.2.2.slice
  have CL := Aside0.mk (len_h hn.1)
  have q := hn.1.cell 0
  have hltg := hn.1.lt
  clear hn
  go_enter Try.func25, Try.ntmps25
  go_wp2_with fail
  refine CL.out.mono ?_
  rintro e w1 ⟨rfl, rfl⟩
  go_wp2_with fail
  go_loopw [4, 8] (fun cc kk wr => ∃ k : Nat, k ≤ L.length ∧ kk = .int .i64 k ∧ cc = .int .i64 (countL (L.take k) who : Nat) ∧ wr = w1) (fun _ kk _ => L.length - (intOf kk).toNat)
  case atStart => exact ⟨0, by omega, rfl, rfl, rfl⟩
  case round =>
    obtain ⟨k, hk, rfl, rfl, rfl⟩ := hrel
    have hcl := countL_le (L.take k) who
    have hlk : (L.take k).length ≤ k := List.length_take_le _ _
    by_cases hlt : k < L.length
    · obtain ⟨r, cur, _, e, hxr, _, _, _, _, hla⟩ := HN.out.2.2.open (by omega)
      subst e
      obtain ⟨vf, c0, _, _, _⟩ := hla k hlt
      rw [← hxr.cell] at c0
      have hltr := hxr.lt
      have htk : countL (L.take (k + 1)) who = countL (L.take k) who + if L[k].who = who then 1 else 0 := by
        rw [← countL_snoc, List.take_add_one, List.getElem?_eq_getElem hlt]
        rfl
      have HT := Aside0.mk htk
      clear htk hxr hla
      generalize L[k] = l at *
      generalize countL (L.take k) who = m at *
      by_cases he : l.who = who
      · have hd : ((l.who : Int) == (who : Int)) = true := by rw [he]; simp
        rw [if_pos he] at HT
        clear he
        go_wp2
        go_roundw
        case rel => exact ⟨k + 1, by omega, by go_num, by rw [HT.out]; go_num, trivial⟩
        case measure => simp [intOf]; omega
      · have hd : ((l.who : Int) == (who : Int)) = false := beq_eq_false_iff_ne.mpr (by omega)
        rw [if_neg he] at HT
        clear he
        go_wp2
        go_roundw
        case rel => exact ⟨k + 1, by omega, by go_num, by rw [HT.out]; rfl, trivial⟩
        case measure => simp [intOf]; omega
    · obtain rfl : k = L.length := by omega
      have e : countL (L.take L.length) who = countL L who := by rw [List.take_of_length_le (Nat.le_refl _)]
      have HE := Aside0.mk e
      clear e hcl hlk
      go_wp2
      go_ret
      exact ⟨by first | rfl | (rw [← HE.out]; simp), rfl⟩
end Go.Proofs.Ytgmbleaecfmfiaa.Given
