/- THE WALKS OF THE LAWS FrameSpoilt: they return true, and nothing that was there has turned. Condition: the bytes are fewer than 2^47 - 4096. WRITTEN BY wip/tools/framegen.py -/
import Derived.Test.YtfffkmpbkaakgaaFrameBackW
import Derived.Test.YtfffkmpbkaakgaaFrLaw
namespace Go.Proofs.Ytfffkmpbkaakgaa.Given
open Go.RowKit Go.Proofs.YtfffkmpbkaakgaaW.PrintWords Go.Proofs.YtfffkmpbkaakgaaW.PrintLast Go.Proofs.YtfffkmpbkaakgaaW.PrintMore Go.Proofs.Ytfffkmpbkaakgaa.PS
set_option maxRecDepth 100000 in
set_option maxHeartbeats 2000000 in
theorem FrameSpoilt_walk {w : World} {v : Value} {bs : List UInt8} (k : UInt8) (hv : Rd w v bs) (hl : bs.length ≤ 140737488351232) (at_ : Int) (hat : -9223372036854775808 ≤ at_ ∧ at_ ≤ 9223372036854775807) (m : UInt8) :
    Calls Try.prog 8 #[.int .u8 (k.toNat : Int), v, .int .i64 at_, .int .u8 (m.toNat : Int)] w fun e w' => e = .returned (.bool true) ∧ Below w.heap.size w w' := by
  have HV := Aside0.mk hv
  clear hv
  by_cases hk : k = 0
  · have hd := u8_zero hk
    have HK := Aside0.mk hk
    clear hk
    go_enter Try.func8, Try.ntmps8
    go_wp2_with fail
    refine (own_h HV.out (by omega)).mono ?_
    rintro e w1 ⟨v1, rfl, ho, hb⟩
    have OF := Aside0.mk ho
    have C1 := Aside0.mk hb
    clear ho hb
    go_wp2_with fail
    refine (frame_h k OF.out.rd (by omega)).mono ?_
    rintro e w2 ⟨v2, rfl, ho, hb⟩
    rw [frameE_zero HK.out]
    have F := Aside0.mk ho
    have C2 := Aside0.mk hb
    clear ho hb
    go_wp2_with fail
    refine (known16_h w2).mono ?_
    rintro e w3 ⟨rfl, hb⟩
    have C3 := Aside0.mk hb
    clear hb
    go_wp2
    go_ret
    exact ⟨rfl, (chain (chain C1.out C2.out) C3.out)⟩
  · by_cases ha : at_ < 0
    · have hd := u8_nonzero hk
      have HK := Aside0.mk hk
      clear hk
      have hA : decide (at_ < 0) = true := decide_eq_true ha
      have HS := Aside0.mk (spoilF_out (m := m) (bs := sealB (k :: bs)) (.inl ha))
      have hsl : (sealB (k :: bs)).length = bs.length + 1 + 4 := by rw [sealB_length]; rfl
      have HSL := Aside0.mk hsl
      clear hsl
      go_enter Try.func8, Try.ntmps8
      go_wp2_with fail
      refine (own_h HV.out (by omega)).mono ?_
      rintro e w1 ⟨v1, rfl, ho, hb⟩
      have OF := Aside0.mk ho
      have C1 := Aside0.mk hb
      clear ho hb
      go_wp2_with fail
      refine (frame_h k OF.out.rd (by omega)).mono ?_
      rintro e w2 ⟨v2, rfl, ho, hb⟩
      rw [frameE_ne HK.out]
      rw [frameL_ne HK.out] at ho
      obtain ⟨A8, c8, rfl, _, _⟩ := id ho.rd
      have F := Aside0.mk ho
      have C2 := Aside0.mk hb
      clear ho hb
      go_wp2_with fail
      refine (spoil_h at_ hat m F.out.rd (by rw [HSL.out]; omega)).mono ?_
      rintro e w3 ⟨v3, rfl, ho, hb⟩
      rw [HS.out] at ho ⊢
      obtain ⟨A9, c9, rfl, _, _⟩ := ho.rd
      simp only [List.length_nil]
      have C3 := Aside0.mk hb
      clear ho hb
      go_wp2_with fail
      refine (known16_h w3).mono ?_
      rintro e w4 ⟨rfl, hb⟩
      have C4 := Aside0.mk hb
      clear hb
      go_wp2
      go_ret
      exact ⟨rfl, (chain (chain (chain C1.out C2.out) C3.out) C4.out)⟩
    · obtain ⟨a, rfl⟩ := Int.eq_ofNat_of_zero_le (show 0 ≤ at_ by omega)
      clear ha
      by_cases hb : (sealB (k :: bs)).length ≤ a
      · have hd := u8_nonzero hk
        have HK := Aside0.mk hk
        clear hk
        have hA : decide ((a : Int) < 0) = false := decide_eq_false (by omega)
        have hB : decide (((sealB (k :: bs)).length : Int) ≤ (a : Int)) = true := decide_eq_true (by omega)
        have hB' : decide ((sealB (k :: bs)).length ≤ a) = true := decide_eq_true hb
        have HS := Aside0.mk (spoilF_out (at_ := (a : Int)) (m := m) (bs := sealB (k :: bs)) (.inr (by omega)))
        have hsl : (sealB (k :: bs)).length = bs.length + 1 + 4 := by rw [sealB_length]; rfl
        have HSL := Aside0.mk hsl
        clear hsl
        go_enter Try.func8, Try.ntmps8
        go_wp2_with fail
        refine (own_h HV.out (by omega)).mono ?_
        rintro e w1 ⟨v1, rfl, ho, hb⟩
        have OF := Aside0.mk ho
        have C1 := Aside0.mk hb
        clear ho hb
        go_wp2_with fail
        refine (frame_h k OF.out.rd (by omega)).mono ?_
        rintro e w2 ⟨v2, rfl, ho, hb⟩
        rw [frameE_ne HK.out]
        rw [frameL_ne HK.out] at ho
        obtain ⟨A8, c8, rfl, _, _⟩ := id ho.rd
        have F := Aside0.mk ho
        have C2 := Aside0.mk hb
        clear ho hb
        go_wp2_with fail
        refine (spoil_h (a : Int) hat m F.out.rd (by rw [HSL.out]; omega)).mono ?_
        rintro e w3 ⟨v3, rfl, ho, hb⟩
        rw [HS.out] at ho ⊢
        obtain ⟨A9, c9, rfl, _, _⟩ := ho.rd
        simp only [List.length_nil]
        have C3 := Aside0.mk hb
        clear ho hb
        go_wp2_with fail
        refine (known16_h w3).mono ?_
        rintro e w4 ⟨rfl, hb⟩
        have C4 := Aside0.mk hb
        clear hb
        go_wp2
        go_ret
        exact ⟨rfl, (chain (chain (chain C1.out C2.out) C3.out) C4.out)⟩
      · by_cases hm : m = 0
        · have hd := u8_nonzero hk
          have HK := Aside0.mk hk
          clear hk
          have hA : decide ((a : Int) < 0) = false := decide_eq_false (by omega)
          have hB : decide (((sealB (k :: bs)).length : Int) ≤ (a : Int)) = false := decide_eq_false (by omega)
          have hB' : decide ((sealB (k :: bs)).length ≤ a) = false := decide_eq_false hb
          have hb2 : a < (sealB (k :: bs)).length := by omega
          have hd2 := u8_zero hm
          have HS := Aside0.mk (spoilF_zero (at_ := (a : Int)) (bs := sealB (k :: bs)) (by omega) hm)
          clear hm
          have hsl : (sealB (k :: bs)).length = bs.length + 1 + 4 := by rw [sealB_length]; rfl
          have HSL := Aside0.mk hsl
          clear hsl
          go_enter Try.func8, Try.ntmps8
          go_wp2_with fail
          refine (own_h HV.out (by omega)).mono ?_
          rintro e w1 ⟨v1, rfl, ho, hb⟩
          have OF := Aside0.mk ho
          have C1 := Aside0.mk hb
          clear ho hb
          go_wp2_with fail
          refine (frame_h k OF.out.rd (by omega)).mono ?_
          rintro e w2 ⟨v2, rfl, ho, hb⟩
          rw [frameE_ne HK.out]
          rw [frameL_ne HK.out] at ho
          obtain ⟨A8, c8, rfl, _, _⟩ := id ho.rd
          have F := Aside0.mk ho
          have C2 := Aside0.mk hb
          clear ho hb
          go_wp2_with fail
          refine (spoil_h (a : Int) hat m F.out.rd (by rw [HSL.out]; omega)).mono ?_
          rintro e w3 ⟨v3, rfl, ho, hb⟩
          rw [HS.out] at ho ⊢
          obtain ⟨A9, c9, rfl, _, _⟩ := ho.rd
          simp only [List.length_nil]
          have C3 := Aside0.mk hb
          clear ho hb
          go_wp2_with fail
          refine (known16_h w3).mono ?_
          rintro e w4 ⟨rfl, hb⟩
          have C4 := Aside0.mk hb
          clear hb
          go_wp2
          go_ret
          exact ⟨rfl, (chain (chain (chain C1.out C2.out) C3.out) C4.out)⟩
        · have hd := u8_nonzero hk
          have HK := Aside0.mk hk
          clear hk
          have hA : decide ((a : Int) < 0) = false := decide_eq_false (by omega)
          have hB : decide (((sealB (k :: bs)).length : Int) ≤ (a : Int)) = false := decide_eq_false (by omega)
          have hB' : decide ((sealB (k :: bs)).length ≤ a) = false := decide_eq_false hb
          have hb2 : a < (sealB (k :: bs)).length := by omega
          have hd2 := u8_nonzero hm
          have HS := Aside0.mk (spoilF_in hb2 hm)
          have HT := Aside0.mk (spoilt_openF (k :: bs) a m hb2 hm)
          have HU := Aside0.mk (spoilF_back hb2 hm)
          clear hm
          have hsl : (sealB (k :: bs)).length = bs.length + 1 + 4 := by rw [sealB_length]; rfl
          have HSL := Aside0.mk hsl
          clear hsl
          go_enter Try.func8, Try.ntmps8
          go_wp2_with fail
          refine (own_h HV.out (by omega)).mono ?_
          rintro e w1 ⟨v1, rfl, ho, hb⟩
          have OF := Aside0.mk ho
          have C1 := Aside0.mk hb
          clear ho hb
          go_wp2_with fail
          refine (frame_h k OF.out.rd (by omega)).mono ?_
          rintro e w2 ⟨v2, rfl, ho, hb⟩
          rw [frameE_ne HK.out]
          rw [frameL_ne HK.out] at ho
          obtain ⟨A8, c8, rfl, _, _⟩ := id ho.rd
          have F := Aside0.mk ho
          have C2 := Aside0.mk hb
          clear ho hb
          go_wp2_with fail
          refine (spoil_h (a : Int) hat m F.out.rd (by rw [HSL.out]; omega)).mono ?_
          rintro e w3 ⟨v3, rfl, ho, hb⟩
          rw [HS.out] at ho ⊢
          have X := Aside0.mk ho
          have C3 := Aside0.mk hb
          clear ho hb
          go_wp2_with fail
          refine (openF_h X.out.rd (by rw [List.length_set, HSL.out]; omega)).mono ?_
          rintro e w4 ⟨v4, rfl, ho, hb⟩
          rw [HT.out]
          have C4 := Aside0.mk hb
          clear ho hb
          go_wp2_with fail
          refine (spoil_h (a : Int) hat m (X.out.below C4.out).rd (by rw [List.length_set, HSL.out]; omega)).mono ?_
          rintro e w5 ⟨v5, rfl, ho, hb⟩
          rw [HU.out] at ho ⊢
          have Y := Aside0.mk ho
          have C5 := Aside0.mk hb
          clear ho hb
          go_wp2_with fail
          refine (openF_h Y.out.rd (by rw [HSL.out]; omega)).mono ?_
          rintro e w6 ⟨v6, rfl, ho, hb⟩
          rw [openF_seal HK.out] at ho ⊢
          have Z := Aside0.mk ho
          have C6 := Aside0.mk hb
          clear ho hb
          go_wp2_with fail
          refine (same_h Z.out.rd (HV.out.below (chain (chain (chain (chain (chain C1.out C2.out) C3.out) C4.out) C5.out) C6.out))).mono ?_
          rintro e w7 ⟨rfl, hb⟩
          have C7 := Aside0.mk hb.below
          clear hb
          rw [decide_eq_true rfl]
          go_wp2_with fail
          refine (known16_h w7).mono ?_
          rintro e w8 ⟨rfl, hb⟩
          have C8 := Aside0.mk hb
          clear hb
          go_wp2
          go_ret
          exact ⟨rfl, (chain (chain (chain (chain (chain (chain (chain C1.out C2.out) C3.out) C4.out) C5.out) C6.out) C7.out) C8.out)⟩
end Go.Proofs.Ytfffkmpbkaakgaa.Given
