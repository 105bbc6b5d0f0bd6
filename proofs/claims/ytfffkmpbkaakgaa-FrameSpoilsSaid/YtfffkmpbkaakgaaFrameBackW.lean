/- THE WALKS OF THE LAWS FrameBack: they return true, and nothing that was there has turned. Condition: the bytes are fewer than 2^47 - 4096. WRITTEN BY wip/tools/framegen.py -/
import Derived.Test.YtfffkmpbkaakgaaFrameFormsW
import Derived.Test.YtfffkmpbkaakgaaFrLaw
namespace Go.Proofs.Ytfffkmpbkaakgaa.Given
open Go.RowKit Go.Proofs.YtfffkmpbkaakgaaW.PrintWords Go.Proofs.YtfffkmpbkaakgaaW.PrintLast Go.Proofs.YtfffkmpbkaakgaaW.PrintMore Go.Proofs.Ytfffkmpbkaakgaa.PS
theorem u8_zero {k : UInt8} (h : k = 0) : ((k.toNat : Int) == 0) = true := by rw [h]; rfl
theorem u8_nonzero {k : UInt8} (h : k ≠ 0) : ((k.toNat : Int) == 0) = false := beq_eq_false_iff_ne.mpr (fun e => h (UInt8.toNat_inj.mp (by simpa using e)))
theorem u8_eq {k l : UInt8} (h : k = l) : ((k.toNat : Int) == (l.toNat : Int)) = true := by rw [h]; simp
theorem u8_ne {k l : UInt8} (h : k ≠ l) : ((k.toNat : Int) == (l.toNat : Int)) = false := beq_eq_false_iff_ne.mpr (fun e => h (UInt8.toNat_inj.mp (by omega)))
set_option maxRecDepth 100000 in
set_option maxHeartbeats 2000000 in
theorem FrameBack_walk {w : World} {v : Value} {bs : List UInt8} (k : UInt8) (hv : Rd w v bs) (hl : bs.length ≤ 140737488351232) (o : UInt8) :
    Calls Try.prog 6 #[.int .u8 (k.toNat : Int), v, .int .u8 (o.toNat : Int)] w fun e w' => e = .returned (.bool true) ∧ Below w.heap.size w w' := by
  have HV := Aside0.mk hv
  clear hv
  by_cases hk : k = 0
  · have hd := u8_zero hk
    have HK := Aside0.mk hk
    clear hk
    go_enter Try.func6, Try.ntmps6
    go_wp2_with fail
    refine (own_h HV.out (by omega)).mono ?_
    rintro e w1 ⟨v1, rfl, ho, hb⟩
    have OF := Aside0.mk ho
    have C1 := Aside0.mk hb
    clear ho hb
    go_wp2_with fail
    refine (frame_h k OF.out.rd (by omega)).mono ?_
    rintro e w2 ⟨v2, rfl, ho, hb⟩
    rw [frameE_zero HK.out]
    rw [frameL_zero HK.out] at ho
    obtain ⟨A9, c9, rfl, _, _⟩ := ho.rd
    simp only [List.length_nil]
    have F := Aside0.mk ho
    have C2 := Aside0.mk hb
    clear ho hb
    go_wp2_with fail
    refine (known16_h w2).mono ?_
    rintro e w3 ⟨rfl, hb⟩
    have C3 := Aside0.mk hb
    clear hb
    go_wp2
    go_ret
    exact ⟨rfl, (chain (chain C1.out C2.out) C3.out)⟩
  · have hd := u8_nonzero hk
    have HK := Aside0.mk hk
    have hsl : (sealB (k :: bs)).length = bs.length + 1 + 4 := by rw [sealB_length]; rfl
    have HSL := Aside0.mk hsl
    clear hk hsl
    go_enter Try.func6, Try.ntmps6
    go_wp2_with fail
    refine (own_h HV.out (by omega)).mono ?_
    rintro e w1 ⟨v1, rfl, ho, hb⟩
    have OF := Aside0.mk ho
    have C1 := Aside0.mk hb
    clear ho hb
    go_wp2_with fail
    refine (frame_h k OF.out.rd (by omega)).mono ?_
    rintro e w2 ⟨v2, rfl, ho, hb⟩
    rw [frameE_ne HK.out]
    rw [frameL_ne HK.out] at ho
    have F := Aside0.mk ho
    have C2 := Aside0.mk hb
    clear ho hb
    go_wp2_with fail
    refine (openF_h F.out.rd (by rw [HSL.out]; omega)).mono ?_
    rintro e w3 ⟨v3, rfl, ho, hb⟩
    rw [openF_seal HK.out] at ho ⊢
    have X := Aside0.mk ho
    have C3 := Aside0.mk hb
    clear ho hb
    by_cases hok : o = k
    · have hd2 := u8_eq hok
      have HOK := Aside0.mk hok
      clear hok
      go_wp2_with fail
      refine (bodyF_h o (F.out.below C3.out).rd (by rw [HSL.out]; omega)).mono ?_
      rintro e w4 ⟨v4, rfl, ho, hb⟩
      rw [HOK.out, bodyF_same HK.out] at ho
      rw [HOK.out, bodyF_same HK.out]
      have Y := Aside0.mk ho
      have C4 := Aside0.mk hb
      clear ho hb
      go_wp2_with fail
      refine (same_h (X.out.below C4.out).rd (HV.out.below (chain (chain (chain C1.out C2.out) C3.out) C4.out))).mono ?_
      rintro e w5 ⟨rfl, hb⟩
      have C5 := Aside0.mk hb.below
      clear hb
      rw [decide_eq_true rfl]
      go_wp2_with fail
      refine (same_h (Y.out.below C5.out).rd (HV.out.below (chain (chain (chain (chain C1.out C2.out) C3.out) C4.out) C5.out))).mono ?_
      rintro e w6 ⟨rfl, hb⟩
      have C6 := Aside0.mk hb.below
      clear hb
      rw [decide_eq_true rfl]
      go_wp2_with fail
      refine (known16_h w6).mono ?_
      rintro e w7 ⟨rfl, hb⟩
      have C7 := Aside0.mk hb
      clear hb
      go_wp2
      go_ret
      exact ⟨rfl, (chain (chain (chain (chain (chain (chain C1.out C2.out) C3.out) C4.out) C5.out) C6.out) C7.out)⟩
    · have hd2 := u8_ne hok
      have HOK := Aside0.mk hok
      clear hok
      go_wp2_with fail
      refine (bodyF_h o (F.out.below C3.out).rd (by rw [HSL.out]; omega)).mono ?_
      rintro e w4 ⟨v4, rfl, ho, hb⟩
      rw [bodyF_other HK.out HOK.out] at ho ⊢
      obtain ⟨A9, c9, rfl, _, _⟩ := ho.rd
      simp only [List.length_nil]
      have C4 := Aside0.mk hb
      clear ho hb
      go_wp2_with fail
      refine (same_h (X.out.below C4.out).rd (HV.out.below (chain (chain (chain C1.out C2.out) C3.out) C4.out))).mono ?_
      rintro e w5 ⟨rfl, hb⟩
      have C5 := Aside0.mk hb.below
      clear hb
      rw [decide_eq_true rfl]
      go_wp2_with fail
      refine (known16_h w5).mono ?_
      rintro e w6 ⟨rfl, hb⟩
      have C6 := Aside0.mk hb
      clear hb
      go_wp2
      go_ret
      exact ⟨rfl, (chain (chain (chain (chain (chain C1.out C2.out) C3.out) C4.out) C5.out) C6.out)⟩
end Go.Proofs.Ytfffkmpbkaakgaa.Given
