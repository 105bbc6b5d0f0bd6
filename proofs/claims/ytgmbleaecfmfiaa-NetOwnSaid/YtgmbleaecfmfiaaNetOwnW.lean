/- THE WALK OF THE LAW NetOwn: it returns true. Condition: the bytes' size. -/
import Derived.Test.YtgmbleaecfmfiaaNetSame
namespace Go.Proofs.Ytgmbleaecfmfiaa.Given
open Go.RowKit Go.Shelf Go.Proofs.YtgmbleaecfmfiaaW.PrintWords Go.Proofs.YtgmbleaecfmfiaaW.PrintLast Go.Proofs.YtgmbleaecfmfiaaW.PrintMore Go.Proofs.Ytgmbleaecfmfiaa.PS
set_option linter.unusedVariables false
theorem u64_of_wf {x : Int} (h : (Lit.int .u64 x).wf = true) : ∃ n : Nat, x = (n : Int) ∧ n < 18446744073709551616 := by
  simp [Lit.wf, IntKind.min, IntKind.max, IntKind.signed, IntKind.bits] at h
  exact ⟨x.toNat, by omega, by omega⟩
theorem NetAt.stepB {t : TypeId} {w w1 : World} {base g : Nat} {v : Value} {L : List Lt} (h : NetAt t w base g v L) (hm : ∀ k, base ≤ k → k < w.heap.size → w1.heap[k]? = w.heap[k]?) : NetAt t w1 base g v L := by
  refine ⟨(hm g h.2.1 h.1.lt).trans h.1, h.2.1, ?_⟩
  exact Kd.R_mono (Kd.R_move (Kd.R_bound h.2.2) (fun k hk => hm k hk.2.1 hk.2.2.1)) (fun _ _ => trivial)
theorem xor_put (x m : UInt8) : bits .xor .u8 (x.toNat : Int) (m.toNat : Int) = (((x ^^^ m).toNat : Nat) : Int) := by
  rw [u8_xor_nat _ _ (x.toNat_lt) (m.toNat_lt), UInt8.toNat_xor]
theorem spoilN_lens2 {L : List Lt} {i at_ : Int} {m : UInt8} (h : ∀ l, l ∈ L → l.fr.length < 140737488355328) : ∀ l, l ∈ (spoilN L i at_ m).1 → l.fr.length < 140737488355328 := by
  unfold spoilN
  split
  · rename_i hi
    obtain ⟨n, rfl, hn1, hg⟩ := inB_nat hi
    rw [hg, show ((n : Nat) : Int).toNat = n from rfl]
    intro l hl
    rcases List.mem_or_eq_of_mem_set hl with h1 | h1
    · exact h l h1
    · rw [h1]
      have h0 := h _ (List.getElem_mem hn1)
      unfold spoilL
      split
      · exact h0
      · split
        · exact h0
        · show (spoilF at_ m L[n].fr).1.length < _
          unfold spoilF
          split
          · simp
          · split
            · simp
            · simpa using h0
  · exact h
theorem spoilN_snd (n : Nat) (bs : List UInt8) : atL (spoilN [⟨n, bs, false⟩, ⟨n, bs, false⟩] 0 0 8).1 1 = (⟨n, bs, false⟩, 0) := by
  unfold spoilN
  rw [if_pos (by constructor <;> simp)]
  show atL [_, _] 1 = _
  rfl
set_option maxRecDepth 100000 in
set_option maxHeartbeats 8000000 in
theorem NetOwn_walk {w : World} {x : Int} (hw : (Lit.int .u64 x).wf = true) {v : Value} {bs : List UInt8} (h : Rd w v bs) (hl : bs.length ≤ 140737488351232) :
    Calls Try.prog 4 #[.int .u64 x, v] w fun e w' => e = .returned (.bool true) ∧ Below w.heap.size w w' := by
  obtain ⟨n, rfl, _⟩ := u64_of_wf hw
  have HV := Aside0.mk h
  obtain ⟨Av, cv, rfl, _, _⟩ := h
  clear hw
  go_enter Try.func4, Try.ntmps4
  go_wp2_with fail
  refine (own28_h HV.out (by omega)).mono ?_
  rintro e w1 ⟨v1, rfl, ho1, hb1⟩
  obtain ⟨A1, c1, rfl⟩ := ho1.slice
  have HO1 := Aside0.mk ho1
  have HB1 := Aside0.mk hb1
  clear ho1 hb1
  go_wp2_with fail
  generalize hW : World.alloc _ _ = W
  obtain ⟨hx, hB, hs⟩ := box1 hW
  clear hW
  have HN0 := Aside0.mk (net_new hx)
  have HO0 := Aside0.mk (HO1.out.below hB)
  have HD0 := Aside0.mk hB
  have HSB := Aside0.mk HB1.out.size
  clear hx hB hs
  refine (send_h HN0.out n bs HO0.out.rd (by omega) (by show (0 + 1) * 40 ≤ 140737488355328; decide)).mono ?_
  rintro e w2 ⟨rfl, v2, hn2, hb2, -, -⟩
  have HN2 : Aside0 (NetAt 28 w2 w1.heap.size w1.heap.size v2 [⟨n, bs, false⟩]) := ⟨hn2⟩
  have HD2 := Aside0.mk (HD0.out.trans hb2)
  clear hn2 hb2
  have HLB := Aside0.mk (show bs.length < 140737488355328 by omega)
  have HL1 : Aside0 (∀ l, l ∈ [(⟨n, bs, false⟩ : Lt)] → l.fr.length < 140737488355328) := ⟨fun l hl' => by rw [List.mem_singleton.1 hl']; exact HLB.out⟩
  have HL2 : Aside0 (∀ l, l ∈ [(⟨n, bs, false⟩ : Lt), ⟨n, bs, false⟩] → l.fr.length < 140737488355328) := ⟨fun l hl' => by
    rcases List.mem_cons.1 hl' with h1 | h1
    · rw [h1]; exact HLB.out
    · exact HL1.out l h1⟩
  go_wp2_with fail
  refine (double_h HN2.out 0 (lensOk_of HL1.out) (by show (1 + 1) * 40 ≤ 140737488355328; decide)).mono ?_
  rw [show doubleL [⟨n, bs, false⟩] 0 = ([⟨n, bs, false⟩, ⟨n, bs, false⟩], 0) from rfl]
  rintro e w3 ⟨rfl, v3, hn3, hb3, -, -⟩
  have HN3 := Aside0.mk hn3
  have HD3 := Aside0.mk (HD2.out.trans hb3)
  have HB3 := Aside0.mk (chain HB1.out (HD2.out.trans hb3))
  have HO3 := Aside0.mk (HO1.out.below (HD2.out.trans hb3))
  clear hn3 hb3
  go_wp2_with fail
  go_loopw [7] (fun kk wr => ∃ (k : Nat) (cs : List UInt8), k ≤ bs.length ∧ kk = .int .i64 k ∧ Aside0 (cs.length = bs.length) ∧ Aside0 (Own wr w.heap.size (.slice A1 bs.length c1) cs) ∧ Aside0 (NetAt 28 wr w1.heap.size w1.heap.size v3 [⟨n, bs, false⟩, ⟨n, bs, false⟩]) ∧ Aside0 (Below w.heap.size w wr)) (fun kk _ => bs.length - (intOf kk).toNat)
  case atStart => exact ⟨0, bs, by omega, rfl, ⟨rfl⟩, HO3, HN3, HB3⟩
  case round =>
    obtain ⟨k, cs, hk, rfl, HCS, HO, HN, HB⟩ := hrel
    by_cases hlt : k < bs.length
    · have hkc : k < cs.length := by rw [HCS.out]; exact hlt
      have ho := HO.out
      rw [← HCS.out] at ho
      obtain ⟨g, cap, e, hg⟩ := ho.form (by omega)
      cases e
      have hg1 : g < w1.heap.size := Kd.R_lt HO1.out g rfl
      have hce := ho.cell k hkc
      have hfz := ho.free k
      have hput := ho.put k (cs[k] ^^^ 1)
      have hxo : bits .xor .u8 (cs[k].toNat : Int) 1 = (((cs[k] ^^^ 1).toNat : Nat) : Int) := xor_put _ 1
      rw [← hxo, HCS.out] at hput
      have HP := Aside0.mk hput
      clear ho hput hxo
      go_wp2
      refine ⟨⟨k + 1, cs.set k (cs[k] ^^^ 1), by omega, by go_num, ⟨by rw [List.length_set]; exact HCS.out⟩, HP, ⟨HN.out.stepB fun q hq _ => Below.heap_setCell _ _ _ _ (by show q ≠ g; omega)⟩, ⟨HB.out.setCell (p := ⟨g, k, none⟩) hg _⟩⟩, ?_⟩
      simp [intOf]
      omega
    · obtain rfl : k = bs.length := by omega
      clear HO HCS
      obtain ⟨w4, rfl⟩ : ∃ w4 : World, w4 = wr := ⟨_, rfl⟩
      go_wp2_with fail
      refine (at_h HN.out 0 (lensOk_of HL2.out)).mono ?_
      rw [show atL [⟨n, bs, false⟩, ⟨n, bs, false⟩] 0 = (⟨n, bs, false⟩, 0) from rfl]
      rintro e w5 ⟨v5, rfl, ho5, hb5⟩
      obtain ⟨A5, c5, rfl⟩ := ho5.slice
      have HO5 := Aside0.mk ho5
      have hb5' := Aside0.mk hb5
      clear ho5 hb5
      go_wp2_with fail
      generalize hW : World.alloc _ _ = W6
      obtain ⟨hx6, hb6, hs6⟩ := box1 hW
      clear hW
      have HX6 := Aside0.mk hx6
      have HO6 := Aside0.mk (HO5.out.below hb6)
      have HE6 := Aside0.mk (show Below w4.heap.size w4 W6 from hb5'.out.trans (hb6.mono hb5'.out.size))
      clear hx6 hb6 hs6
      go_loopw [10] (fun kk wr => ∃ (k : Nat) (cs : List UInt8), k ≤ bs.length ∧ kk = .int .i64 k ∧ Aside0 (cs.length = bs.length) ∧ Aside0 (Own wr w4.heap.size (.slice A5 bs.length c5) cs) ∧ Aside0 (Bx wr w5.heap.size 36 #[.int .u64 (n : Int), .slice A5 bs.length c5, .bool false]) ∧ Aside0 (Below w4.heap.size w4 wr)) (fun kk _ => bs.length - (intOf kk).toNat)
      case atStart => exact ⟨0, bs, by omega, rfl, ⟨rfl⟩, HO6, HX6, HE6⟩
      case round =>
        obtain ⟨k, cs, hk, rfl, HCS, HO, HX, HE⟩ := hrel
        have y1 := HX.out.cell 1
        have ylt := HX.out.lt
        by_cases hlt : k < bs.length
        · have hkc : k < cs.length := by rw [HCS.out]; exact hlt
          have ho := HO.out
          rw [← HCS.out] at ho
          obtain ⟨g, cap, e, hg⟩ := ho.form (by omega)
          cases e
          have hce := ho.cell k hkc
          have hfz := ho.free k
          have hput := ho.put k (cs[k] ^^^ 2)
          have hxo : bits .xor .u8 (cs[k].toNat : Int) 2 = (((cs[k] ^^^ 2).toNat : Nat) : Int) := xor_put _ 2
          rw [← hxo, HCS.out] at hput
          have HP := Aside0.mk hput
          obtain ⟨cells, hgx⟩ := Own.typed HO.out rfl
          have HGX := Aside0.mk hgx
          have hkc2 : k < bs.length := hlt
          clear ho hput hxo hgx
          go_wp2_with fail
          go_region
          all_goals go_wp2
          all_goals refine ⟨⟨k + 1, cs.set k (cs[k] ^^^ 2), by omega, by go_num, ⟨by rw [List.length_set]; exact HCS.out⟩, ⟨Kd.R_drew HP.out⟩, ⟨HX.out.far (p := ⟨g, k, none⟩) (HX.out.ne HGX.out (by decide)) _⟩, ⟨(HE.out.setCell (p := ⟨g, k, none⟩) hg _).drew⟩⟩, ?_⟩
          all_goals simp [intOf]
          all_goals omega
        · obtain rfl : k = bs.length := by omega
          have HN7 := Aside0.mk (HN.out.below HE.out)
          have HB7 := Aside0.mk (chain HB.out HE.out)
          clear HO HCS HX HE
          obtain ⟨w7, rfl⟩ : ∃ w7 : World, w7 = wr := ⟨_, rfl⟩
          go_wp2_with fail
          refine (all_h HN7.out (lensOk_of HL2.out) (by show (2 + 1) * 40 ≤ 140737488355328; decide)).mono ?_
          rintro e w8 ⟨v8, rfl, hbg8, hb8⟩
          obtain ⟨A8, c8, e8⟩ := hbg8.slice
          subst e8
          obtain ⟨r8, cur8, _, e8, hxr8, _, _, _, _, hla8⟩ := hbg8.open (by simp)
          subst e8
          obtain ⟨v80, d0, d1, d2, hv80⟩ := hla8 0 (by simp)
          obtain ⟨A80, c80, rfl⟩ := hv80.slice
          have HXR8 := Aside0.mk hxr8
          have HD1 := Aside0.mk d1
          have HV80 : Aside0 (Own w8 w7.heap.size (.slice A80 bs.length c80) bs) := ⟨hv80⟩
          have HE8 := Aside0.mk hb8
          clear hbg8 hxr8 hla8 d0 d1 d2 hv80 hb8 y1 ylt
          go_wp2_with fail
          go_loopw [12] (fun kk wr => ∃ (k : Nat) (cs : List UInt8), k ≤ bs.length ∧ kk = .int .i64 k ∧ Aside0 (cs.length = bs.length) ∧ Aside0 (Own wr w7.heap.size (.slice A80 bs.length c80) cs) ∧ Aside0 (Bx wr r8 36 cur8) ∧ Aside0 (Below w7.heap.size w7 wr)) (fun kk _ => bs.length - (intOf kk).toNat)
          case atStart => exact ⟨0, bs, by omega, rfl, ⟨rfl⟩, HV80, HXR8, HE8⟩
          case round =>
            obtain ⟨k, cs, hk, rfl, HCS, HO, HX, HE⟩ := hrel
            have y1 : wr.cell? ⟨r8, 1, none⟩ = some (.slice A80 bs.length c80) := by rw [HX.out.cell]; exact HD1.out
            have ylt := HX.out.lt
            by_cases hlt : k < bs.length
            · have hkc : k < cs.length := by rw [HCS.out]; exact hlt
              have ho := HO.out
              rw [← HCS.out] at ho
              obtain ⟨g, cap, e, hg⟩ := ho.form (by omega)
              cases e
              have hce := ho.cell k hkc
              have hfz := ho.free k
              have hput := ho.put k (cs[k] ^^^ 4)
              have hxo : bits .xor .u8 (cs[k].toNat : Int) 4 = (((cs[k] ^^^ 4).toNat : Nat) : Int) := xor_put _ 4
              rw [← hxo, HCS.out] at hput
              have HP := Aside0.mk hput
              obtain ⟨cells, hgx⟩ := Own.typed HO.out rfl
              have HGX := Aside0.mk hgx
              clear ho hput hxo hgx
              go_wp2_with fail
              go_region
              all_goals go_wp2
              all_goals refine ⟨⟨k + 1, cs.set k (cs[k] ^^^ 4), by omega, by go_num, ⟨by rw [List.length_set]; exact HCS.out⟩, ⟨Kd.R_drew HP.out⟩, ⟨HX.out.far (p := ⟨g, k, none⟩) (HX.out.ne HGX.out (by decide)) _⟩, ⟨(HE.out.setCell (p := ⟨g, k, none⟩) hg _).drew⟩⟩, ?_⟩
              all_goals simp [intOf]
              all_goals omega
            · obtain rfl : k = bs.length := by omega
              have HN9 := Aside0.mk (HN7.out.below HE.out)
              have HB9 := Aside0.mk (chain HB7.out HE.out)
              clear HO HCS HX HE
              obtain ⟨w9, rfl⟩ : ∃ w9 : World, w9 = wr := ⟨_, rfl⟩
              go_wp2_with fail
              refine (spoilM_h HN9.out 0 0 (by omega) 8 HL2.out).mono ?_
              rintro e w10 ⟨rfl, v10, hn10, hb10, -, -⟩
              have hls := spoilN_lens2 (i := 0) (at_ := 0) (m := 8) HL2.out
              have hat : atL (spoilN [⟨n, bs, false⟩, ⟨n, bs, false⟩] 0 0 8).1 1 = (⟨n, bs, false⟩, 0) := spoilN_snd n bs
              have HN10 := Aside0.mk hn10
              have HB10 := Aside0.mk (HB9.out.trans (hb10.mono (Nat.le_trans HB1.out.size (Nat.le_refl _))))
              have HLS := Aside0.mk hls
              have HAT := Aside0.mk hat
              clear hn10 hb10 hls hat y1 ylt
              generalize spoilN [⟨n, bs, false⟩, ⟨n, bs, false⟩] 0 0 8 = x10 at *
              go_wp2_with fail
              refine (at_h HN10.out 1 (lensOk_of HLS.out)).mono ?_
              rw [HAT.out]
              rintro e w11 ⟨v11, rfl, ho11, hb11⟩
              obtain ⟨A11, c11, rfl⟩ := ho11.slice
              have HO11 := Aside0.mk ho11.rd
              have HB11 := Aside0.mk (HB10.out.trans (hb11.mono HB10.out.size))
              clear ho11 hb11
              go_wp2_with fail
              generalize hW : World.alloc _ _ = W12
              obtain ⟨_, hb12, _⟩ := box1 hW
              clear hW
              have HO12 := Aside0.mk (HO11.out.below hb12)
              have HB12 := Aside0.mk (HB11.out.trans (hb12.mono HB11.out.size))
              clear hb12
              refine (sameLet_h ⟨n, bs, false⟩ HO12.out (HV.out.below HB12.out)).mono ?_
              rintro e w13 ⟨rfl, hb13⟩
              have HB13 := Aside0.mk (HB12.out.trans (hb13.mono HB12.out.size))
              clear hb13
              go_wp2_with fail
              refine (known28_h _).mono ?_
              rintro e w14 ⟨rfl, hb14⟩
              have HB14 := Aside0.mk (HB13.out.trans (hb14.mono HB13.out.size))
              clear hb14
              go_wp2
              go_ret
              exact ⟨rfl, HB14.out⟩
end Go.Proofs.Ytgmbleaecfmfiaa.Given
