/- THE WALKS OF THE LAWS FrameSpoils: they return true, and nothing that was there has turned. Condition: the bytes are fewer than 2^47 - 4096. WRITTEN BY wip/tools/framegen.py -/
import Derived.Test.YtfffkmpbkaakgaaFrameBackW
import Derived.Test.YtfffkmpbkaakgaaFrLaw
namespace Go.Proofs.Ytfffkmpbkaakgaa.Given
open Go.RowKit Go.Proofs.YtfffkmpbkaakgaaW.PrintWords Go.Proofs.YtfffkmpbkaakgaaW.PrintLast Go.Proofs.YtfffkmpbkaakgaaW.PrintMore Go.Proofs.Ytfffkmpbkaakgaa.PS
set_option maxRecDepth 100000 in
set_option maxHeartbeats 2000000 in
theorem FrameSpoils_walk {w : World} {v : Value} {bs : List UInt8} (hv : Rd w v bs) (hl : bs.length ≤ 140737488351232) (at_ : Int) (hat : -9223372036854775808 ≤ at_ ∧ at_ ≤ 9223372036854775807) (m : UInt8) :
    Calls Try.prog 9 #[v, .int .i64 at_, .int .u8 (m.toNat : Int)] w fun e w' => e = .returned (.bool true) ∧ Below w.heap.size w w' := by
  have HV := Aside0.mk hv
  obtain ⟨A, c, rfl, _, _⟩ := hv
  by_cases ha : at_ < 0
  · have hA : decide (at_ < 0) = true := decide_eq_true ha
    have HS := Aside0.mk (spoilF_out (m := m) (bs := bs) (.inl ha))
    go_enter Try.func9, Try.ntmps9
    go_wp2_with fail
    refine (own_h HV.out (by omega)).mono ?_
    rintro e w1 ⟨v1, rfl, ho, hb⟩
    have O1 := Aside0.mk ho
    have C1 := Aside0.mk hb
    clear ho hb
    go_wp2_with fail
    refine (spoil_h at_ hat m O1.out.rd (by omega)).mono ?_
    rintro e w2 ⟨v2, rfl, ho, hb⟩
    rw [HS.out] at ho ⊢
    obtain ⟨A9, c9, rfl, _, _⟩ := ho.rd
    simp only [List.length_nil]
    have C2 := Aside0.mk hb
    clear ho hb
    go_wp2_with fail
    refine (known16_h w2).mono ?_
    rintro e w3 ⟨rfl, hb⟩
    have C3 := Aside0.mk hb
    clear hb
    go_wp2
    go_ret
    exact ⟨rfl, (chain (chain C1.out C2.out) C3.out)⟩
  · obtain ⟨a, rfl⟩ := Int.eq_ofNat_of_zero_le (show 0 ≤ at_ by omega)
    clear ha
    by_cases hb : bs.length ≤ a
    · have hA : decide ((a : Int) < 0) = false := decide_eq_false (by omega)
      have hB : decide ((bs.length : Int) ≤ (a : Int)) = true := decide_eq_true (by omega)
      have hB' : decide (bs.length ≤ a) = true := decide_eq_true hb
      have HS := Aside0.mk (spoilF_out (at_ := (a : Int)) (m := m) (bs := bs) (.inr (by omega)))
      go_enter Try.func9, Try.ntmps9
      go_wp2_with fail
      refine (own_h HV.out (by omega)).mono ?_
      rintro e w1 ⟨v1, rfl, ho, hb⟩
      have O1 := Aside0.mk ho
      have C1 := Aside0.mk hb
      clear ho hb
      go_wp2_with fail
      refine (spoil_h (a : Int) hat m O1.out.rd (by omega)).mono ?_
      rintro e w2 ⟨v2, rfl, ho, hb⟩
      rw [HS.out] at ho ⊢
      obtain ⟨A9, c9, rfl, _, _⟩ := ho.rd
      simp only [List.length_nil]
      have C2 := Aside0.mk hb
      clear ho hb
      go_wp2_with fail
      refine (known16_h w2).mono ?_
      rintro e w3 ⟨rfl, hb⟩
      have C3 := Aside0.mk hb
      clear hb
      go_wp2
      go_ret
      exact ⟨rfl, (chain (chain C1.out C2.out) C3.out)⟩
    · by_cases hm : m = 0
      · have hA : decide ((a : Int) < 0) = false := decide_eq_false (by omega)
        have hB : decide ((bs.length : Int) ≤ (a : Int)) = false := decide_eq_false (by omega)
        have hB' : decide (bs.length ≤ a) = false := decide_eq_false hb
        have hb2 : a < bs.length := by omega
        have hd2 := u8_zero hm
        have HS := Aside0.mk (spoilF_zero (at_ := (a : Int)) (bs := bs) (by omega) hm)
        clear hm
        go_enter Try.func9, Try.ntmps9
        go_wp2_with fail
        refine (own_h HV.out (by omega)).mono ?_
        rintro e w1 ⟨v1, rfl, ho, hb⟩
        have O1 := Aside0.mk ho
        have C1 := Aside0.mk hb
        clear ho hb
        go_wp2_with fail
        refine (spoil_h (a : Int) hat m O1.out.rd (by omega)).mono ?_
        rintro e w2 ⟨v2, rfl, ho, hb⟩
        rw [HS.out] at ho ⊢
        obtain ⟨A9, c9, rfl, _, _⟩ := ho.rd
        simp only [List.length_nil]
        have C2 := Aside0.mk hb
        clear ho hb
        go_wp2_with fail
        refine (known16_h w2).mono ?_
        rintro e w3 ⟨rfl, hb⟩
        have C3 := Aside0.mk hb
        clear hb
        go_wp2
        go_ret
        exact ⟨rfl, (chain (chain C1.out C2.out) C3.out)⟩
      · have hA : decide ((a : Int) < 0) = false := decide_eq_false (by omega)
        have hB : decide ((bs.length : Int) ≤ (a : Int)) = false := decide_eq_false (by omega)
        have hB' : decide (bs.length ≤ a) = false := decide_eq_false hb
        have hb2 : a < bs.length := by omega
        have hd2 := u8_nonzero hm
        have HS := Aside0.mk (spoilF_in hb2 hm)
        clear hm
        go_enter Try.func9, Try.ntmps9
        go_wp2_with fail
        refine (own_h HV.out (by omega)).mono ?_
        rintro e w1 ⟨v1, rfl, ho, hb⟩
        have O1 := Aside0.mk ho
        have C1 := Aside0.mk hb
        clear ho hb
        go_wp2_with fail
        refine (spoil_h (a : Int) hat m O1.out.rd (by omega)).mono ?_
        rintro e w2 ⟨v2, rfl, ho, hb⟩
        rw [HS.out] at ho ⊢
        obtain ⟨g, cap, rfl, hg⟩ := ho.form (by rw [List.length_set]; omega)
        simp only [List.length_set] at ho ⊢
        have X := Aside0.mk ho
        have C2 := Aside0.mk hb
        clear ho hb
        go_wp2_with fail
        refine (same_h (O1.out.below C2.out).rd (HV.out.below (chain C1.out C2.out))).mono ?_
        rintro e w3 ⟨rfl, hb⟩
        have C3 := Aside0.mk hb.below
        clear hb
        rw [decide_eq_true rfl]
        obtain ⟨ad, rfl, hcb⟩ := (HV.out.below (chain (chain C1.out C2.out) C3.out)).at (by omega)
        have HCB := Aside0.mk hcb
        have HX := Aside0.mk ((X.out.below C3.out))
        clear hcb
        generalize hS : bs.set a (bs[a] ^^^ m) = S at *
        have hSl : S.length = bs.length := by rw [← hS]; simp
        have HX' := Aside0.mk (show Own w3 w1.heap.size (.slice (some ⟨g, 0, none⟩) S.length cap) S by rw [hSl]; exact HX.out)
        have hsc : ∀ i (h : i < bs.length), w3.cell? ⟨g, i, none⟩ = some (.int .u8 ((if i = a then bs[i] ^^^ m else bs[i]).toNat : Int)) := by
          intro i h
          rw [HX'.out.cell i (by omega)]
          subst hS
          rw [List.getElem_set]
          by_cases hia : a = i
          · subst hia; simp
          · rw [if_neg hia, if_neg (fun e => hia e.symm)]
        have HSC := Aside0.mk hsc
        have HHS := Aside0.mk hS
        clear hsc hS
        go_wp2_with fail
        go_loopw [10] (fun kk wr => ∃ i : Nat, i ≤ bs.length ∧ kk = .int .i64 i ∧ wr = w3) (fun kk _ => bs.length - (intOf kk).toNat)
        case atStart => exact ⟨0, by omega, rfl, rfl⟩
        case round =>
          obtain ⟨i, hi, rfl, rfl⟩ := hrel
          by_cases hlt : i < bs.length
          · have hc1 := HCB.out i hlt
            have hc2 := HSC.out i hlt
            by_cases hia : i = a
            · rw [if_pos hia] at hc2
              obtain rfl : i = a := hia
              have hx : bits .xor .u8 (bs[i].toNat : Int) (m.toNat : Int) = (((bs[i] ^^^ m).toNat : Nat) : Int) := by
                rw [u8_xor_nat _ _ (bs[i].toNat_lt) (m.toNat_lt), UInt8.toNat_xor]
              generalize (bs[i] ^^^ m).toNat = c8 at *
              generalize bs[i].toNat = b8 at *
              go_wp2_with fail
              refine ⟨⟨i + 1, by omega, by go_num, trivial⟩, ?_⟩
              simp [intOf]
              omega
            · have he : ((i : Int) == (a : Int)) = false := beq_eq_false_iff_ne.mpr (by omega)
              rw [if_neg hia] at hc2
              generalize bs[i].toNat = b8 at *
              go_wp2_with fail
              refine ⟨⟨i + 1, by omega, by go_num, trivial⟩, ?_⟩
              simp [intOf]
              omega
          · obtain rfl : i = bs.length := by omega
            have hc2 := HSC.out a hb2
            have hfz := HX.out.free a
            generalize (if a = a then bs[a] ^^^ m else bs[a]).toNat = c8 at *
            have hB1 := Aside0.mk (chain C2.out C3.out)
            have hB0 := Aside0.mk (chain (chain C1.out C2.out) C3.out)
            go_wp2_with fail
            generalize hW5 : World.setCell _ _ _ = W5
            have D1 := Aside0.mk (show Below w1.heap.size w1 W5 by rw [← hW5]; exact hB1.out.setCell (p := ⟨g, a, none⟩) hg _)
            have hwg : w.heap.size ≤ g := Nat.le_trans C1.out.size hg
            have D0 := Aside0.mk (show Below w.heap.size w W5 by rw [← hW5]; exact hB0.out.setCell (p := ⟨g, a, none⟩) hwg _)
            clear hW5
            refine (same_h (O1.out.below D1.out).rd (HV.out.below D0.out)).mono ?_
            rintro e u6 ⟨rfl, hb⟩
            rw [decide_eq_true rfl]
            have D6 := Aside0.mk hb.below
            clear hb
            go_wp2_with fail
            refine (known16_h u6).mono ?_
            rintro e u7 ⟨rfl, hb⟩
            have D7 := Aside0.mk hb
            clear hb
            go_wp2
            go_ret
            exact ⟨rfl, chain D0.out (chain D6.out D7.out)⟩
end Go.Proofs.Ytfffkmpbkaakgaa.Given
