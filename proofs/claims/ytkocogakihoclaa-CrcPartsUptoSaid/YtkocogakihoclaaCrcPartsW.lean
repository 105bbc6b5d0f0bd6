/- THE WALK OF THE LAW CrcParts: it returns true, and nothing that was there has turned. Condition: each row holds at most 1048576 bytes. -/
import Derived.Test.YtkocogakihoclaaCrcSealsW
namespace Go.Proofs.Ytkocogakihoclaa.Given
open Go.RowKit Go.Proofs.YtkocogakihoclaaW.PrintWords Go.Proofs.YtkocogakihoclaaW.PrintLast Go.Proofs.YtkocogakihoclaaW.PrintMore Go.Proofs.Ytkocogakihoclaa.PS
theorem Own.lower {w : World} {b b' : Nat} {v : Value} {bs : List UInt8} (h : Own w b v bs) (hb : b' ≤ b) : Own w b' v bs := Kd.R_lower h hb
theorem moreN_parts (a b c : List UInt8) : moreN (moreN (moreN 0 a) b) c = moreN 0 (a ++ b ++ c) := by rw [moreN_append, moreN_append]
set_option maxRecDepth 100000 in
set_option maxHeartbeats 2000000 in
theorem CrcParts_walk {w : World} {v0 v1 v2 : Value} {a b c : List UInt8} (hv0 : Rd w v0 a) (hl0 : a.length ≤ 1048576) (hv1 : Rd w v1 b) (hl1 : b.length ≤ 1048576) (hv2 : Rd w v2 c) (hl2 : c.length ≤ 1048576) :
    Calls Try.prog 4 #[v0, v1, v2] w fun e w' => e = .returned (.bool true) ∧ Below w.heap.size w w' := by
  have HV0 := Aside0.mk hv0
  have HV1 := Aside0.mk hv1
  have HV2 := Aside0.mk hv2
  obtain ⟨A1, c1, rfl, _, _⟩ := hv1
  obtain ⟨A2, c2, rfl, _, _⟩ := hv2
  clear hv0
  have lA := nB_length a
  have lB := nB_length b
  have lC := nB_length c
  have LA := Aside0.mk lA
  have LB := Aside0.mk lB
  have LC := Aside0.mk lC
  clear lA lB lC
  go_enter Try.func4, Try.ntmps4
  go_wp2_with fail
  refine (own_h HV0.out (by omega)).mono ?_
  rintro e w1 ⟨u1, rfl, ho1, hb1⟩
  have H1 := Aside0.mk ho1
  have B1 := Aside0.mk hb1
  clear ho1 hb1
  go_wp2_with (first | ((with_reducible refine gate_builtin (b := .append) (xs := #[.tmp 9, .tmp 10]) rfl ?_); at_builtin; refine Kd.R_append_rows (Kd.int .u8) (w0 := w) w.heap.size rfl (.tmp 9) (.tmp 10) 22 5 (.int .u8 0) 1 rfl Try.underlying22 info5 rfl (by decide) (by omega) u1 (nB a) (nB b) _ _ _ (fun _ => True) (fun _ => False) rfl rfl ?aO ?aR (fun _ _ h => h) (fun _ h => h.elim) ?aF ?aB ?aS ?aL ?_; (case aR => exact (by obtain ⟨_, _, e, _, hr⟩ := HV1.out.below B1.out; cases e; exact hr)); (case aB => exact B1.out); (case aF => exact (fun _ _ => trivial)); (case aO => exact H1.out); (case aS => exact B1.out.size); (case aL => rw [LA.out]; omega); intro v113 w4 ho hb hg hat; have n0_ := Aside0.mk hb; have n1_ := Aside0.mk ho; clear ho hb hg hat) | ((with_reducible refine gate_builtin (b := .append) (xs := #[.tmp 11, .tmp 12]) rfl ?_); at_builtin; refine Kd.R_append_rows (Kd.int .u8) (w0 := w) w.heap.size rfl (.tmp 11) (.tmp 12) 22 5 (.int .u8 0) 1 rfl Try.underlying22 info5 rfl (by decide) (by omega) v113 (nB a ++ nB b) (nB c) _ _ _ (fun _ => True) (fun _ => False) rfl rfl ?aO ?aR (fun _ _ h => h) (fun _ h => h.elim) ?aF ?aB ?aS ?aL ?_; (case aR => exact (by obtain ⟨_, _, e, _, hr⟩ := HV2.out.below n0_.out; cases e; exact hr)); (case aB => exact n0_.out); (case aF => exact (fun _ _ => trivial)); (case aO => exact n1_.out); (case aS => exact n0_.out.size); (case aL => rw [List.length_append, LA.out, LB.out]; omega); intro v114 w5 ho hb hg hat; have n2_ := Aside0.mk hb; have n3_ := Aside0.mk ho; clear ho hb hg hat) | fail)
  have HD := Aside0.mk (show Own w5 w.heap.size v114 (a ++ b ++ c) by unfold Own; rw [nB_append, nB_append]; exact n3_.out)
  have B5 := n2_
  clear n0_ n1_ n2_ n3_ H1
  refine (own_h (HV0.out.below B5.out) (by omega)).mono ?_
  rintro e w6 ⟨u6, rfl, ho, hb⟩
  have H6 := Aside0.mk ho.rd
  have HD := Aside0.mk (HD.out.rd.below hb)
  have B6 := Aside0.mk (chain B5.out hb)
  clear ho hb
  go_wp2_with fail
  refine (sum_h H6.out (by omega)).mono ?_
  rintro e w7 ⟨rfl, hb⟩
  have HD := Aside0.mk (HD.out.below hb)
  have B7 := Aside0.mk (chain B6.out hb)
  clear hb
  go_wp2_with fail
  refine (own_h (HV1.out.below B7.out) (by omega)).mono ?_
  rintro e w8 ⟨u8, rfl, ho, hb⟩
  have H8 := Aside0.mk ho.rd
  have HD := Aside0.mk (HD.out.below hb)
  have B8 := Aside0.mk (chain B7.out hb)
  clear ho hb
  go_wp2_with fail
  refine (more_h (moreN 0 a) (moreN_lt _ _) H8.out (by omega)).mono ?_
  rintro e w9 ⟨rfl, hb⟩
  have HD := Aside0.mk (HD.out.below hb)
  have B9 := Aside0.mk (chain B8.out hb)
  clear hb
  go_wp2_with fail
  refine (own_h (HV2.out.below B9.out) (by omega)).mono ?_
  rintro e w10 ⟨u10, rfl, ho, hb⟩
  have H10 := Aside0.mk ho.rd
  have HD := Aside0.mk (HD.out.below hb)
  have B10 := Aside0.mk (chain B9.out hb)
  clear ho hb
  go_wp2_with fail
  refine (more_h (moreN (moreN 0 a) b) (moreN_lt _ _) H10.out (by omega)).mono ?_
  rintro e w11 ⟨rfl, hb⟩
  have HD := Aside0.mk (HD.out.below hb)
  have B11 := Aside0.mk (chain B10.out hb)
  clear hb
  have hparts := moreN_parts a b c
  rw [hparts]
  clear hparts
  go_wp2_with fail
  refine (sum_h HD.out (by simp only [List.length_append]; omega)).mono ?_
  rintro e w12 ⟨rfl, hb⟩
  have B12 := Aside0.mk (chain B11.out hb)
  clear hb
  go_wp2_with fail
  refine (own_h (HV0.out.below B12.out) (by omega)).mono ?_
  rintro e w13 ⟨u13, rfl, ho, hb⟩
  have H13 := Aside0.mk ho.rd
  have B13 := Aside0.mk (chain B12.out hb)
  clear ho hb
  go_wp2_with fail
  refine (sum_h H13.out (by omega)).mono ?_
  rintro e w14 ⟨rfl, hb⟩
  have B14 := Aside0.mk (chain B13.out hb)
  clear hb
  go_wp2_with fail
  refine (more_h (moreN 0 a) (moreN_lt _ _) (Rd.nil _ 0) (by simp)).mono ?_
  rintro e w15 ⟨rfl, hb⟩
  have B15 := Aside0.mk (chain B14.out hb)
  clear hb
  have hnil := moreN_nil (moreN 0 a) (moreN_lt _ _)
  rw [hnil]
  clear hnil
  go_wp2_with fail
  refine (own_h (HV0.out.below B15.out) (by omega)).mono ?_
  rintro e w16 ⟨u16, rfl, ho, hb⟩
  have H16 := Aside0.mk ho.rd
  have B16 := Aside0.mk (chain B15.out hb)
  clear ho hb
  go_wp2_with fail
  refine (sum_h H16.out (by omega)).mono ?_
  rintro e w17 ⟨rfl, hb⟩
  have B17 := Aside0.mk (chain B16.out hb)
  clear hb
  go_wp2_with fail
  refine (known_h w17).mono ?_
  rintro e w18 ⟨rfl, hb⟩
  have B18 := Aside0.mk (chain B17.out hb)
  clear hb
  go_wp2
  go_ret
  exact ⟨rfl, B18.out⟩
end Go.Proofs.Ytkocogakihoclaa.Given
