/- THE WALKS OF THE LAWS FrameUnlike: they return true, and nothing that was there has turned. Condition: the bytes are fewer than 2^47 - 4096. WRITTEN BY wip/tools/framegen.py -/
import Derived.Test.YtfffkmpbkaakgaaFrameBackW
import Derived.Test.YtfffkmpbkaakgaaFrLaw
namespace Go.Proofs.Ytfffkmpbkaakgaa.Given
open Go.RowKit Go.Proofs.YtfffkmpbkaakgaaW.PrintWords Go.Proofs.YtfffkmpbkaakgaaW.PrintLast Go.Proofs.YtfffkmpbkaakgaaW.PrintMore Go.Proofs.Ytfffkmpbkaakgaa.PS
set_option maxRecDepth 100000 in
set_option maxHeartbeats 2000000 in
theorem FrameUnlike_walk {w : World} {v v' : Value} {bs cs : List UInt8} (hv : Rd w v bs) (hl : bs.length ≤ 140737488351232) (hv' : Rd w v' cs) (hl' : cs.length ≤ 140737488351232) (k l : UInt8) :
    Calls Try.prog 4 #[v, v', .int .u8 (k.toNat : Int), .int .u8 (l.toNat : Int)] w fun e w' => e = .returned (.bool true) ∧ Below w.heap.size w w' := by
  have HV := Aside0.mk hv
  have HV' := Aside0.mk hv'
  clear hv hv'
  by_cases hk : k = 0
  · by_cases hl0 : l = 0
    · have hd := u8_zero hk
      have hd' := u8_zero hl0
      have HK := Aside0.mk hk
      have HL := Aside0.mk hl0
      clear hk hl0
      go_enter Try.func4, Try.ntmps4
      go_wp2_with fail
      refine (own_h HV.out (by omega)).mono ?_
      rintro e w1 ⟨v1, rfl, ho, hb⟩
      have OF := Aside0.mk ho
      have C1 := Aside0.mk hb
      clear ho hb
      go_wp2_with fail
      refine (frame_h k OF.out.rd (by omega)).mono ?_
      rintro e w2 ⟨v2, rfl, ho, hb⟩
      rw [frameE_zero HK.out]
      rw [frameL_zero HK.out] at ho
      have F := Aside0.mk ho
      have C2 := Aside0.mk hb
      clear ho hb
      go_wp2_with fail
      refine (own_h (HV'.out.below (chain C1.out C2.out)) (by omega)).mono ?_
      rintro e w3 ⟨v3, rfl, ho, hb⟩
      have OG := Aside0.mk ho
      have C3 := Aside0.mk hb
      clear ho hb
      go_wp2_with fail
      refine (frame_h l OG.out.rd (by omega)).mono ?_
      rintro e w4 ⟨v4, rfl, ho, hb⟩
      rw [frameE_zero HL.out]
      rw [frameL_zero HL.out] at ho
      have G := Aside0.mk ho
      have C4 := Aside0.mk hb
      clear ho hb
      go_wp2_with fail
      refine (known16_h w4).mono ?_
      rintro e w5 ⟨rfl, hb⟩
      have C5 := Aside0.mk hb
      clear hb
      go_wp2
      go_ret
      exact ⟨rfl, (chain (chain (chain (chain C1.out C2.out) C3.out) C4.out) C5.out)⟩
    · have hd := u8_zero hk
      have hd' := u8_nonzero hl0
      have HK := Aside0.mk hk
      have HL := Aside0.mk hl0
      clear hk hl0
      go_enter Try.func4, Try.ntmps4
      go_wp2_with fail
      refine (own_h HV.out (by omega)).mono ?_
      rintro e w1 ⟨v1, rfl, ho, hb⟩
      have OF := Aside0.mk ho
      have C1 := Aside0.mk hb
      clear ho hb
      go_wp2_with fail
      refine (frame_h k OF.out.rd (by omega)).mono ?_
      rintro e w2 ⟨v2, rfl, ho, hb⟩
      rw [frameE_zero HK.out]
      rw [frameL_zero HK.out] at ho
      have F := Aside0.mk ho
      have C2 := Aside0.mk hb
      clear ho hb
      go_wp2_with fail
      refine (own_h (HV'.out.below (chain C1.out C2.out)) (by omega)).mono ?_
      rintro e w3 ⟨v3, rfl, ho, hb⟩
      have OG := Aside0.mk ho
      have C3 := Aside0.mk hb
      clear ho hb
      go_wp2_with fail
      refine (frame_h l OG.out.rd (by omega)).mono ?_
      rintro e w4 ⟨v4, rfl, ho, hb⟩
      rw [frameE_ne HL.out]
      rw [frameL_ne HL.out] at ho
      have G := Aside0.mk ho
      have C4 := Aside0.mk hb
      clear ho hb
      go_wp2_with fail
      refine (known16_h w4).mono ?_
      rintro e w5 ⟨rfl, hb⟩
      have C5 := Aside0.mk hb
      clear hb
      go_wp2
      go_ret
      exact ⟨rfl, (chain (chain (chain (chain C1.out C2.out) C3.out) C4.out) C5.out)⟩
  · by_cases hl0 : l = 0
    · have hd := u8_nonzero hk
      have hd' := u8_zero hl0
      have HK := Aside0.mk hk
      have HL := Aside0.mk hl0
      clear hk hl0
      go_enter Try.func4, Try.ntmps4
      go_wp2_with fail
      refine (own_h HV.out (by omega)).mono ?_
      rintro e w1 ⟨v1, rfl, ho, hb⟩
      have OF := Aside0.mk ho
      have C1 := Aside0.mk hb
      clear ho hb
      go_wp2_with fail
      refine (frame_h k OF.out.rd (by omega)).mono ?_
      rintro e w2 ⟨v2, rfl, ho, hb⟩
      rw [frameE_ne HK.out]
      rw [frameL_ne HK.out] at ho
      have F := Aside0.mk ho
      have C2 := Aside0.mk hb
      clear ho hb
      go_wp2_with fail
      refine (own_h (HV'.out.below (chain C1.out C2.out)) (by omega)).mono ?_
      rintro e w3 ⟨v3, rfl, ho, hb⟩
      have OG := Aside0.mk ho
      have C3 := Aside0.mk hb
      clear ho hb
      go_wp2_with fail
      refine (frame_h l OG.out.rd (by omega)).mono ?_
      rintro e w4 ⟨v4, rfl, ho, hb⟩
      rw [frameE_zero HL.out]
      rw [frameL_zero HL.out] at ho
      have G := Aside0.mk ho
      have C4 := Aside0.mk hb
      clear ho hb
      go_wp2_with fail
      refine (known16_h w4).mono ?_
      rintro e w5 ⟨rfl, hb⟩
      have C5 := Aside0.mk hb
      clear hb
      go_wp2
      go_ret
      exact ⟨rfl, (chain (chain (chain (chain C1.out C2.out) C3.out) C4.out) C5.out)⟩
    · by_cases hkl : k = l
      · by_cases hab : bs = cs
        · have hd := u8_nonzero hk
          have hd' := u8_nonzero hl0
          have HK := Aside0.mk hk
          have HL := Aside0.mk hl0
          have hd2 := u8_eq hkl
          have HKL := Aside0.mk hkl
          have HAB := Aside0.mk hab
          clear hk hl0 hkl hab
          go_enter Try.func4, Try.ntmps4
          go_wp2_with fail
          refine (own_h HV.out (by omega)).mono ?_
          rintro e w1 ⟨v1, rfl, ho, hb⟩
          have OF := Aside0.mk ho
          have C1 := Aside0.mk hb
          clear ho hb
          go_wp2_with fail
          refine (frame_h k OF.out.rd (by omega)).mono ?_
          rintro e w2 ⟨v2, rfl, ho, hb⟩
          rw [frameE_ne HK.out]
          rw [frameL_ne HK.out] at ho
          have F := Aside0.mk ho
          have C2 := Aside0.mk hb
          clear ho hb
          go_wp2_with fail
          refine (own_h (HV'.out.below (chain C1.out C2.out)) (by omega)).mono ?_
          rintro e w3 ⟨v3, rfl, ho, hb⟩
          have OG := Aside0.mk ho
          have C3 := Aside0.mk hb
          clear ho hb
          go_wp2_with fail
          refine (frame_h l OG.out.rd (by omega)).mono ?_
          rintro e w4 ⟨v4, rfl, ho, hb⟩
          rw [frameE_ne HL.out]
          rw [frameL_ne HL.out] at ho
          have G := Aside0.mk ho
          have C4 := Aside0.mk hb
          clear ho hb
          go_wp2_with fail
          refine (same_h (F.out.below (chain C3.out C4.out)).rd G.out.rd).mono ?_
          rintro e w5 ⟨rfl, hb⟩
          have C5 := Aside0.mk hb.below
          clear hb
          rw [frame_unlike, decide_eq_true HKL.out, decide_eq_true HAB.out, Bool.true_and]
          go_wp2_with fail
          refine (same_h (HV.out.below (chain (chain (chain (chain C1.out C2.out) C3.out) C4.out) C5.out)) (HV'.out.below (chain (chain (chain (chain C1.out C2.out) C3.out) C4.out) C5.out))).mono ?_
          rintro e w6 ⟨rfl, hb⟩
          have C6 := Aside0.mk hb.below
          clear hb
          rw [decide_eq_true HAB.out]
          go_wp2_with fail
          refine (known16_h w6).mono ?_
          rintro e w7 ⟨rfl, hb⟩
          have C7 := Aside0.mk hb
          clear hb
          go_wp2
          go_ret
          exact ⟨rfl, (chain (chain (chain (chain (chain (chain C1.out C2.out) C3.out) C4.out) C5.out) C6.out) C7.out)⟩
        · have hd := u8_nonzero hk
          have hd' := u8_nonzero hl0
          have HK := Aside0.mk hk
          have HL := Aside0.mk hl0
          have hd2 := u8_eq hkl
          have HKL := Aside0.mk hkl
          have HAB := Aside0.mk hab
          clear hk hl0 hkl hab
          go_enter Try.func4, Try.ntmps4
          go_wp2_with fail
          refine (own_h HV.out (by omega)).mono ?_
          rintro e w1 ⟨v1, rfl, ho, hb⟩
          have OF := Aside0.mk ho
          have C1 := Aside0.mk hb
          clear ho hb
          go_wp2_with fail
          refine (frame_h k OF.out.rd (by omega)).mono ?_
          rintro e w2 ⟨v2, rfl, ho, hb⟩
          rw [frameE_ne HK.out]
          rw [frameL_ne HK.out] at ho
          have F := Aside0.mk ho
          have C2 := Aside0.mk hb
          clear ho hb
          go_wp2_with fail
          refine (own_h (HV'.out.below (chain C1.out C2.out)) (by omega)).mono ?_
          rintro e w3 ⟨v3, rfl, ho, hb⟩
          have OG := Aside0.mk ho
          have C3 := Aside0.mk hb
          clear ho hb
          go_wp2_with fail
          refine (frame_h l OG.out.rd (by omega)).mono ?_
          rintro e w4 ⟨v4, rfl, ho, hb⟩
          rw [frameE_ne HL.out]
          rw [frameL_ne HL.out] at ho
          have G := Aside0.mk ho
          have C4 := Aside0.mk hb
          clear ho hb
          go_wp2_with fail
          refine (same_h (F.out.below (chain C3.out C4.out)).rd G.out.rd).mono ?_
          rintro e w5 ⟨rfl, hb⟩
          have C5 := Aside0.mk hb.below
          clear hb
          rw [frame_unlike, decide_eq_true HKL.out, decide_eq_false HAB.out, Bool.true_and]
          go_wp2_with fail
          refine (same_h (HV.out.below (chain (chain (chain (chain C1.out C2.out) C3.out) C4.out) C5.out)) (HV'.out.below (chain (chain (chain (chain C1.out C2.out) C3.out) C4.out) C5.out))).mono ?_
          rintro e w6 ⟨rfl, hb⟩
          have C6 := Aside0.mk hb.below
          clear hb
          rw [decide_eq_false HAB.out]
          go_wp2_with fail
          refine (known16_h w6).mono ?_
          rintro e w7 ⟨rfl, hb⟩
          have C7 := Aside0.mk hb
          clear hb
          go_wp2
          go_ret
          exact ⟨rfl, (chain (chain (chain (chain (chain (chain C1.out C2.out) C3.out) C4.out) C5.out) C6.out) C7.out)⟩
      · have hd := u8_nonzero hk
        have hd' := u8_nonzero hl0
        have HK := Aside0.mk hk
        have HL := Aside0.mk hl0
        have hd2 := u8_ne hkl
        have HKL := Aside0.mk hkl
        clear hk hl0 hkl
        go_enter Try.func4, Try.ntmps4
        go_wp2_with fail
        refine (own_h HV.out (by omega)).mono ?_
        rintro e w1 ⟨v1, rfl, ho, hb⟩
        have OF := Aside0.mk ho
        have C1 := Aside0.mk hb
        clear ho hb
        go_wp2_with fail
        refine (frame_h k OF.out.rd (by omega)).mono ?_
        rintro e w2 ⟨v2, rfl, ho, hb⟩
        rw [frameE_ne HK.out]
        rw [frameL_ne HK.out] at ho
        have F := Aside0.mk ho
        have C2 := Aside0.mk hb
        clear ho hb
        go_wp2_with fail
        refine (own_h (HV'.out.below (chain C1.out C2.out)) (by omega)).mono ?_
        rintro e w3 ⟨v3, rfl, ho, hb⟩
        have OG := Aside0.mk ho
        have C3 := Aside0.mk hb
        clear ho hb
        go_wp2_with fail
        refine (frame_h l OG.out.rd (by omega)).mono ?_
        rintro e w4 ⟨v4, rfl, ho, hb⟩
        rw [frameE_ne HL.out]
        rw [frameL_ne HL.out] at ho
        have G := Aside0.mk ho
        have C4 := Aside0.mk hb
        clear ho hb
        go_wp2_with fail
        refine (same_h (F.out.below (chain C3.out C4.out)).rd G.out.rd).mono ?_
        rintro e w5 ⟨rfl, hb⟩
        have C5 := Aside0.mk hb.below
        clear hb
        rw [frame_unlike, decide_eq_false HKL.out, Bool.false_and]
        go_wp2_with fail
        refine (known16_h w5).mono ?_
        rintro e w6 ⟨rfl, hb⟩
        have C6 := Aside0.mk hb
        clear hb
        go_wp2
        go_ret
        exact ⟨rfl, (chain (chain (chain (chain (chain C1.out C2.out) C3.out) C4.out) C5.out) C6.out)⟩
end Go.Proofs.Ytfffkmpbkaakgaa.Given
