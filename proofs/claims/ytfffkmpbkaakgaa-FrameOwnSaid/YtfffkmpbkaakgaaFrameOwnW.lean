/- THE WALKS OF THE LAWS FrameOwn: they return true, and nothing that was there has turned. Condition: the bytes are fewer than 2^47 - 4096. WRITTEN BY wip/tools/framegen.py -/
import Derived.Test.YtfffkmpbkaakgaaFrameBackW
import Derived.Test.YtfffkmpbkaakgaaFrLaw
namespace Go.Proofs.Ytfffkmpbkaakgaa.Given
open Go.RowKit Go.Proofs.YtfffkmpbkaakgaaW.PrintWords Go.Proofs.YtfffkmpbkaakgaaW.PrintLast Go.Proofs.YtfffkmpbkaakgaaW.PrintMore Go.Proofs.Ytfffkmpbkaakgaa.PS
set_option maxRecDepth 100000 in
set_option maxHeartbeats 2000000 in
theorem FrameOwn_walk {w : World} {v : Value} {bs : List UInt8} (k : UInt8) (hv : Rd w v bs) (hl : bs.length ≤ 140737488351232) :
    Calls Try.prog 7 #[.int .u8 (k.toNat : Int), v] w fun e w' => e = .returned (.bool true) ∧ Below w.heap.size w w' := by
  have HV := Aside0.mk hv
  clear hv
  by_cases hk : k = 0
  · have hd := u8_zero hk
    clear hk
    go_enter Try.func7, Try.ntmps7
    go_wp2_with fail
    refine (known16_h w).mono ?_
    rintro e w1 ⟨rfl, hb⟩
    have C1 := Aside0.mk hb
    clear hb
    go_wp2
    go_ret
    exact ⟨rfl, C1.out⟩
  · have hd := u8_nonzero hk
    have HK := Aside0.mk hk
    clear hk
    have hsl : (sealB (k :: bs)).length = bs.length + 1 + 4 := by rw [sealB_length]; rfl
    have HSL := Aside0.mk hsl
    clear hsl
    go_enter Try.func7, Try.ntmps7
    go_wp2_with fail
    refine (own_h HV.out (by omega)).mono ?_
    rintro e w1 ⟨v1, rfl, ho, hb⟩
    obtain ⟨A1, c1, rfl, _, _⟩ := id ho.rd
    have X := Aside0.mk ho
    have C1 := Aside0.mk hb
    clear ho hb
    go_wp2_with fail
    refine (frame_h k X.out.rd (by omega)).mono ?_
    rintro e w2 ⟨v2, rfl, ho, hb⟩
    rw [frameE_ne HK.out]
    rw [frameL_ne HK.out] at ho
    have hgl1 : ∀ g, A1 = some ⟨g, 0, none⟩ → g < w1.heap.size := fun g e => by have := X.out; rw [e] at this; exact this.lt
    have F := Aside0.mk ho
    have C2 := Aside0.mk hb
    clear ho hb
    have HGL := hgl1
    have X2 := Aside0.mk (X.out.below C2.out)
    have B2 := Aside0.mk (chain C1.out C2.out)
    clear hgl1
    generalize hn : bs.length = n at *
    go_wp2_with fail
    go_loopw [8] (fun kk wr => ∃ (j : Nat) (L : List UInt8), j ≤ n ∧ kk = .int .i64 j ∧ L.length = n ∧ Aside0 (Own wr w.heap.size (.slice A1 n c1) L) ∧ Aside0 (Own wr w1.heap.size v2 (sealB (k :: bs))) ∧ Aside0 (Below w.heap.size w wr)) (fun kk _ => n - (intOf kk).toNat)
    case atStart => exact ⟨0, _, by omega, rfl, hn, ⟨X2.out⟩, ⟨F.out⟩, ⟨B2.out⟩⟩
    case round =>
      obtain ⟨j, L, hj, rfl, hL, HO, L0, HB⟩ := hrel
      by_cases hlt : j < n
      · have hO := HO.out
        obtain ⟨g, cap2, e0, hgb⟩ := hO.form (by omega)
        rw [hL] at e0
        cases e0
        have e0 : (Value.slice (some ⟨g, 0, none⟩) n c1) = .slice (some ⟨g, 0, none⟩) L.length c1 := by rw [hL]
        rw [e0] at hO
        have hjl : j < L.length := by omega
        have hce := hO.cell j hjl
        have hfz := hO.free j
        have hput := hO.put j (L[j] + 1)
        rw [← e0] at hput
        have HPUT := Aside0.mk hput
        have hadd : (((L[j] + 1 : UInt8).toNat : Nat) : Int) = ((L[j].toNat : Int) + 1) % 256 := by rw [UInt8.toNat_add]; simp
        have HA := Aside0.mk hadd
        have hlt8 := L[j].toNat_lt
        have hgl := HGL g rfl
        clear hO e0 hput hadd
        generalize hb8 : L[j].toNat = b8 at *
        go_wp2_with fail
        refine ⟨⟨j + 1, L.set j (L[j] + 1), by omega, by go_num, by rw [List.length_set]; exact hL, ⟨by rw [← HA.out]; exact HPUT.out⟩, ⟨L0.out.far (show g < w1.heap.size by omega) _⟩, ⟨HB.out.setCell (p := ⟨g, j, none⟩) hgb _⟩⟩, ?_⟩
        simp [intOf]
        omega
      · obtain rfl : j = n := by omega
        subst hn
        clear HGL HO hL
        have C1 := HB
        clear hj hlt
        go_wp2_with fail
        refine (own_h L0.out.rd (by rw [HSL.out]; omega)).mono ?_
        rintro e u1 ⟨x1, rfl, ho, hb⟩
        obtain ⟨A2, c2, rfl, _, _⟩ := id ho.rd
        have G := Aside0.mk ho
        have D1 := Aside0.mk hb
        clear ho hb
        go_wp2_with fail
        refine (openF_h G.out.rd (by rw [HSL.out]; omega)).mono ?_
        rintro e u2 ⟨x2, rfl, ho, hb⟩
        rw [openF_seal HK.out] at ho ⊢
        obtain ⟨A3, c3, rfl, _, _⟩ := id ho.rd
        have Y := Aside0.mk ho
        have D2 := Aside0.mk hb
        clear ho hb
        go_wp2_with fail
        refine (bodyF_h k (G.out.below D2.out).rd (by rw [HSL.out]; omega)).mono ?_
        rintro e u3 ⟨x3, rfl, ho, hb⟩
        rw [bodyF_same HK.out] at ho ⊢
        have Z := Aside0.mk ho
        have D3 := Aside0.mk hb
        clear ho hb
        have hgl2 : ∀ g, A2 = some ⟨g, 0, none⟩ → g < u1.heap.size := fun g e => by have := G.out; rw [e] at this; exact this.lt
        have hu2 : u1.heap.size ≤ u2.heap.size := D2.out.size
        have HGL := hgl2
        clear hgl2
        have hwr : w.heap.size ≤ wr.heap.size := HB.out.size
        have G3 := Aside0.mk (((G.out.below D2.out).below D3.out).lower hwr)
        have Y3 := Aside0.mk (Y.out.below D3.out)
        have B3 := Aside0.mk (chain (chain HB.out D1.out) (chain D2.out D3.out))
        have hmb : (sealB (k :: bs)).length ≤ 140737488355328 := by rw [HSL.out]; omega
        generalize hm : (sealB (k :: bs)).length = m at *
        go_wp2_with fail
        clear HB
        go_loopw [15] (fun kk wr => ∃ (j : Nat) (L : List UInt8), j ≤ m ∧ kk = .int .i64 j ∧ L.length = m ∧ Aside0 (Own wr w.heap.size (.slice A2 m c2) L) ∧ Aside0 (Own wr u1.heap.size (.slice A3 bs.length c3) bs) ∧ Aside0 (Own wr u2.heap.size x3 bs) ∧ Aside0 (Below w.heap.size w wr)) (fun kk _ => m - (intOf kk).toNat)
        case atStart => exact ⟨0, _, by omega, rfl, hm, ⟨G3.out⟩, ⟨Y3.out⟩, ⟨Z.out⟩, ⟨B3.out⟩⟩
        case round =>
          obtain ⟨j, L, hj, rfl, hL, HO, L0, L1, HB⟩ := hrel
          by_cases hlt : j < m
          · have hO := HO.out
            obtain ⟨g, cap2, e0, hgb⟩ := hO.form (by omega)
            rw [hL] at e0
            cases e0
            have e0 : (Value.slice (some ⟨g, 0, none⟩) m c2) = .slice (some ⟨g, 0, none⟩) L.length c2 := by rw [hL]
            rw [e0] at hO
            have hjl : j < L.length := by omega
            have hce := hO.cell j hjl
            have hfz := hO.free j
            have hput := hO.put j (L[j] + 1)
            rw [← e0] at hput
            have HPUT := Aside0.mk hput
            have hadd : (((L[j] + 1 : UInt8).toNat : Nat) : Int) = ((L[j].toNat : Int) + 1) % 256 := by rw [UInt8.toNat_add]; simp
            have HA := Aside0.mk hadd
            have hlt8 := L[j].toNat_lt
            have hgl := HGL g rfl
            clear hO e0 hput hadd
            generalize hb8 : L[j].toNat = b8 at *
            go_wp2_with fail
            refine ⟨⟨j + 1, L.set j (L[j] + 1), by omega, by go_num, by rw [List.length_set]; exact hL, ⟨by rw [← HA.out]; exact HPUT.out⟩, ⟨L0.out.far (show g < u1.heap.size by omega) _⟩, ⟨L1.out.far (show g < u2.heap.size by omega) _⟩, ⟨HB.out.setCell (p := ⟨g, j, none⟩) hgb _⟩⟩, ?_⟩
            simp [intOf]
            omega
          · obtain rfl : j = m := by omega
            clear HGL HO hL hj hlt
            go_wp2_with fail
            refine (same_h L0.out.rd (HV.out.below HB.out)).mono ?_
            rintro e u4 ⟨rfl, hb⟩
            rw [decide_eq_true rfl]
            have D4 := Aside0.mk hb.below
            clear hb
            have hgl3 : ∀ g, A3 = some ⟨g, 0, none⟩ → g < u2.heap.size := fun g e => by have := Y.out; rw [e] at this; exact this.lt
            have HGL := hgl3
            clear hgl3
            have hu0 : w.heap.size ≤ u1.heap.size := Nat.le_trans hwr D1.out.size
            have Y4 := Aside0.mk ((L0.out.below D4.out).lower hu0)
            have Z4 := Aside0.mk (L1.out.below D4.out)
            have B4 := Aside0.mk (chain HB.out D4.out)
            clear HB L0 L1
            generalize hn : bs.length = n at *
            go_wp2_with fail
            go_loopw [16] (fun kk wr => ∃ (j : Nat) (L : List UInt8), j ≤ n ∧ kk = .int .i64 j ∧ L.length = n ∧ Aside0 (Own wr w.heap.size (.slice A3 n c3) L) ∧ Aside0 (Own wr u2.heap.size x3 bs) ∧ Aside0 (Below w.heap.size w wr)) (fun kk _ => n - (intOf kk).toNat)
            case atStart => exact ⟨0, _, by omega, rfl, hn, ⟨Y4.out⟩, ⟨Z4.out⟩, ⟨B4.out⟩⟩
            case round =>
              obtain ⟨j, L, hj, rfl, hL, HO, L0, HB⟩ := hrel
              by_cases hlt : j < n
              · have hO := HO.out
                obtain ⟨g, cap2, e0, hgb⟩ := hO.form (by omega)
                rw [hL] at e0
                cases e0
                have e0 : (Value.slice (some ⟨g, 0, none⟩) n c3) = .slice (some ⟨g, 0, none⟩) L.length c3 := by rw [hL]
                rw [e0] at hO
                have hjl : j < L.length := by omega
                have hce := hO.cell j hjl
                have hfz := hO.free j
                have hput := hO.put j (L[j] + 1)
                rw [← e0] at hput
                have HPUT := Aside0.mk hput
                have hadd : (((L[j] + 1 : UInt8).toNat : Nat) : Int) = ((L[j].toNat : Int) + 1) % 256 := by rw [UInt8.toNat_add]; simp
                have HA := Aside0.mk hadd
                have hlt8 := L[j].toNat_lt
                have hgl := HGL g rfl
                clear hO e0 hput hadd
                generalize hb8 : L[j].toNat = b8 at *
                go_wp2_with fail
                refine ⟨⟨j + 1, L.set j (L[j] + 1), by omega, by go_num, by rw [List.length_set]; exact hL, ⟨by rw [← HA.out]; exact HPUT.out⟩, ⟨L0.out.far (show g < u2.heap.size by omega) _⟩, ⟨HB.out.setCell (p := ⟨g, j, none⟩) hgb _⟩⟩, ?_⟩
                simp [intOf]
                omega
              · obtain rfl : j = n := by omega
                go_wp2_with fail
                refine (same_h L0.out.rd (HV.out.below HB.out)).mono ?_
                rintro e u5 ⟨rfl, hb⟩
                rw [decide_eq_true rfl]
                have D5 := Aside0.mk hb.below
                clear hb
                go_wp2_with fail
                refine (known16_h u5).mono ?_
                rintro e u6 ⟨rfl, hb⟩
                have D6 := Aside0.mk hb
                clear hb
                go_wp2
                go_ret
                exact ⟨rfl, chain HB.out (chain D5.out D6.out)⟩
end Go.Proofs.Ytfffkmpbkaakgaa.Given
